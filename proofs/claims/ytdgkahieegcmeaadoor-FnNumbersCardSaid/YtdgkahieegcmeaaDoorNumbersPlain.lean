/- Sources of choices, and what they draw. -/
import Derived.Test.YtdgkahieegcmeaaDoorNumbersC
import Derived.Test.YtdgkahieegcmeaaDoorNFloat
set_option linter.unusedVariables false
set_option linter.unusedSimpArgs false
set_option linter.unusedSectionVars false
namespace Go.Proofs.YtdgkahieegcmeaaDoor.AWN
open Go

theorem w64_id {n : Int} (h0 : -9223372036854775808 ≤ n) (h1 : n < 9223372036854775808) : w64 n = n := by
  show IntKind.wrap .i64 n = n
  simp only [IntKind.wrap, IntKind.signed, IntKind.bits]
  simp
  omega
theorem u64_id {n : Int} (h0 : 0 ≤ n) (h1 : n < 18446744073709551616) : IntKind.wrap .u64 n = n := by
  simp only [IntKind.wrap, IntKind.signed, IntKind.bits]
  simp
  omega
theorem and255 (x : Int) : 0 ≤ ibits .and .u64 x 255 ∧ ibits .and .u64 x 255 ≤ 255 := by
  unfold ibits
  have h : ((BitVec.ofInt 64 x &&& BitVec.ofInt 64 255).toNat : Int) ≤ 255 := by
    rw [BitVec.toNat_and]
    have : (BitVec.ofInt 64 255).toNat = 255 := by decide
    rw [this]
    have := @Nat.and_le_right (BitVec.ofInt 64 x).toNat 255
    omega
  show 0 ≤ IntKind.wrap .u64 ((BitVec.ofInt 64 x &&& BitVec.ofInt 64 255).toNat : Int) ∧ IntKind.wrap .u64 ((BitVec.ofInt 64 x &&& BitVec.ofInt 64 255).toNat : Int) ≤ 255
  rw [u64_id (by omega) (by omega)]
  omega

theorem getI_of {α : Type} {l : List α} {i : Int} (h0 : 0 ≤ i) (h1 : i < l.length) : ∃ x, getI l i = some x ∧ x ∈ l ∧ l[i.toNat]? = some x := by
  have hlt : i.toNat < l.length := by omega
  refine ⟨l[i.toNat], ?_, List.getElem_mem _, List.getElem?_eq_getElem hlt⟩
  unfold getI
  rw [if_pos h0, List.getElem?_eq_getElem hlt]

/-- A source that has read 'b' times at most. -/
structure Src (s : SL00Src) (b : Int) : Prop where
  low : 0 ≤ s.at_
  high : s.at_ ≤ b
  byte : ∀ x ∈ s.code, 0 ≤ x ∧ x < 256
theorem Src.mono {s : SL00Src} {b c : Int} (h : Src s b) (hbc : b ≤ c) : Src s c := ⟨h.low, by have := h.high; omega, h.byte⟩

theorem next_some (n : Nat) {s : SL00Src} {b : Int} (h : Src s b) (hb : b ≤ 1000000) : ∃ v s', m_spec_l00Src_next n s = some (v, s') ∧ 0 ≤ v ∧ v ≤ 255 ∧ Src s' (b + 1) := by
  have h1 := h.low
  have h2 := h.high
  have hj : ∀ v : Int, 0 ≤ v → v ≤ 255 → ∃ v' s', m_spec_l00Src_next_j1 n s v = some (v', s') ∧ 0 ≤ v' ∧ v' ≤ 255 ∧ Src s' (b + 1) := by
    intro v hv0 hv1
    unfold m_spec_l00Src_next_j1
    have hw : w64 (s.at_ + 1) = s.at_ + 1 := w64_id (by omega) (by omega)
    split
    · exact ⟨v, _, rfl, hv0, hv1, ⟨by show 0 ≤ w64 _; rw [hw]; omega, by show w64 _ ≤ _; rw [hw]; omega, h.byte⟩⟩
    · refine ⟨_, _, rfl, ?_, ?_, ⟨by show 0 ≤ w64 _; rw [hw]; omega, by show w64 _ ≤ _; rw [hw]; omega, h.byte⟩⟩
      · have := and255 ((IntKind.wrap .u64 ((IntKind.wrap .u64 ((IntKind.wrap .u64 (s.seed * (6364136223846793005 : Int))) + (IntKind.wrap .u64 (v)))) + (1442695040888963407 : Int))).fdiv (2 ^ min (40 : Int).toNat (IntKind.bits .u64)))
        generalize ibits .and .u64 _ _ = z at *
        rw [w64_id (by omega) (by omega)]; exact this.1
      · have := and255 ((IntKind.wrap .u64 ((IntKind.wrap .u64 ((IntKind.wrap .u64 (s.seed * (6364136223846793005 : Int))) + (IntKind.wrap .u64 (v)))) + (1442695040888963407 : Int))).fdiv (2 ^ min (40 : Int).toNat (IntKind.bits .u64)))
        generalize ibits .and .u64 _ _ = z at *
        rw [w64_id (by omega) (by omega)]; exact this.2
  unfold m_spec_l00Src_next
  split
  · rename_i hlt
    obtain ⟨x, hx, hm, _⟩ := getI_of h1 hlt
    rw [hx]
    have hb := h.byte x hm
    simp only [Option.bind_some]
    rw [w64_id (by omega) (by omega)]
    exact hj x (by omega) (by omega)
  · exact hj 0 (by omega) (by omega)

theorem pick_some (n : Nat) {s : SL00Src} {b : Int} (h : Src s b) (hb : b ≤ 900000) (k : Int) (hk : k ≤ 100000) : ∃ v s', m_spec_l00Src_pick n s k = some (v, s') ∧ 0 ≤ v ∧ (v < k ∨ v = 0) ∧ Src s' (b + 2) := by
  unfold m_spec_l00Src_pick
  split
  · exact ⟨0, s, rfl, by omega, by omega, h.mono (by omega)⟩
  · rename_i hk1
    have hj : ∀ (v : Int) (s' : SL00Src), 0 ≤ v → Src s' (b + 2) → ∃ v' s'', m_spec_l00Src_pick_j1 n k s'.code s'.at_ s'.seed v = some (v', s'') ∧ 0 ≤ v' ∧ (v' < k ∨ v' = 0) ∧ Src s'' (b + 2) := by
      intro v s' hv hs
      unfold m_spec_l00Src_pick_j1 grd
      rw [if_pos (show k ≠ 0 by omega)]
      refine ⟨_, _, rfl, ?_, ?_, hs⟩
      · rw [Int.tmod_eq_emod_of_nonneg hv]; exact Int.emod_nonneg _ (by omega)
      · left; rw [Int.tmod_eq_emod_of_nonneg hv]; exact Int.emod_lt_of_pos _ (by omega)
    obtain ⟨v1, s1, e1, a1, b1, c1⟩ := next_some n h (by omega)
    rw [e1]
    simp only [Option.bind_some]
    split
    · obtain ⟨v2, s2, e2, a2, b2, c2⟩ := next_some n c1 (by omega)
      rw [e2]
      simp only [Option.bind_some]
      rw [w64_id (n := v1 * 256) (by omega) (by omega), w64_id (by omega) (by omega)]
      exact hj _ s2 (by omega) (c2.mono (by omega))
    · exact hj _ s1 a1 (c1.mono (by omega))

theorem pick_lt (n : Nat) {s : SL00Src} {b : Int} (h : Src s b) (hb : b ≤ 900000) (k : Int) (hk0 : 1 ≤ k) (hk : k ≤ 100000) : ∃ v s', m_spec_l00Src_pick n s k = some (v, s') ∧ 0 ≤ v ∧ v < k ∧ Src s' (b + 2) := by
  obtain ⟨v, s', e, h1, h2, h3⟩ := pick_some n h hb k hk
  exact ⟨v, s', e, h1, by omega, h3⟩

end Go.Proofs.YtdgkahieegcmeaaDoor.AWN

namespace Go.Proofs.YtdgkahieegcmeaaDoor.AWN
open Go

theorem grd_pos {α : Type} {p : Prop} [Decidable p] {x : Option α} (h : p) : grd p x = x := by unfold grd; rw [if_pos h]
theorem neq_selfq {k : FloatKind} {a : Nat} : fcmp .neq k a a = isnan k a := by
  have : fcmp .neq k a a = !fcmp .eql k a a := by
    unfold fcmp; rfl
  rw [this, eql_self, Bool.not_not]
/-- A word of a float32, with one NaN. -/
structure Wd (x : Nat) : Prop where
  one : canon .f32 x = x
  low : x < 4294967296
theorem wd_canon {x : Nat} (h : x < 4294967296) : Wd (canon .f32 x) := by
  unfold canon
  split
  · exact ⟨by decide, by decide⟩
  · rename_i hn
    exact ⟨canon_of_not (by simpa using hn), h⟩
theorem wd_arith (op : BinOp) (x y : Nat) : Wd (farith op .f32 x y) := by
  rw [farith_eq]
  cases h : fraw op .f32 x y with
  | none => exact ⟨by decide, by decide⟩
  | some r =>
    obtain ⟨h1, h2⟩ := fraw_some op .f32 x y r h
    exact ⟨canon_of_not h1, h2⟩
theorem wd_near (z : Int) : Wd (FloatKind.nearest .f32 z) := ⟨(nearest_ok .f32 z).1, (nearest_ok .f32 z).2⟩
/-- The word that is written for a number. -/
def bitsN (x : Nat) : Nat := if isnan .f32 x then 2143289344 else x
theorem bitsN_lt {x : Nat} (h : Wd x) : bitsN x < 4294967296 := by
  unfold bitsN
  split
  · decide
  · exact h.low
theorem canon_bits {x : Nat} (h : Wd x) : canon .f32 (bitsN x) = x := by
  unfold bitsN
  split
  · rename_i hn
    rw [← h.one, canon_of_nan hn]
    decide
  · exact h.one
theorem bits_ok (n : Nat) {x : Nat} (h : Wd x) : m_impl_BitsOf n x = some (bitsN x : Int) := by
  unfold m_impl_BitsOf m_impl_isNaN bitsN
  rw [Option.bind_some, neq_selfq]
  cases hn : isnan .f32 x with
  | true => rfl
  | false =>
    have := h.low
    rw [if_neg (by decide), if_neg (by decide), grd_pos rfl, w64_id (by omega) (by omega)]
theorem from_ok (n : Nat) {x : Nat} (h : Wd x) : m_impl_FromBits n (bitsN x : Int) = some (x, true) := by
  have hb := bitsN_lt h
  have hw : IntKind.wrap .u32 (bitsN x : Int) = (bitsN x : Int) := by
    simp only [IntKind.wrap, IntKind.signed, IntKind.bits]
    simp
    omega
  unfold m_impl_FromBits m_impl_in
  rw [if_pos (by omega), Option.bind_some, if_pos (by simp; omega), hw, Int.toNat_natCast, grd_pos hb, canon_bits h]
theorem same_ok (n : Nat) (x : Nat) : m_spec_SameNumber n x x = some true := by
  have hb : ∃ v, m_spec_l01Bits n x = some v := by
    unfold m_spec_l01Bits
    rw [neq_selfq]
    cases h : isnan .f32 x with
    | true => exact ⟨_, rfl⟩
    | false => rw [if_neg (by decide), grd_pos rfl]; exact ⟨_, rfl⟩
  obtain ⟨v, hv⟩ := hb
  unfold m_spec_SameNumber m_spec_l01Same
  rw [hv, Option.bind_some, Option.bind_some, Option.bind_some]
  simp
theorem and15 {x : Int} (h0 : 0 ≤ x) (h1 : x < 4294967296) : ibits .and .i64 x 15 = x % 16 := by
  obtain ⟨y, rfl⟩ := Int.eq_ofNat_of_zero_le h0
  unfold ibits
  have h : ((BitVec.ofInt 64 (y : Int) &&& BitVec.ofInt 64 15).toNat) = y % 16 := by
    rw [BitVec.toNat_and]
    have h1' : (BitVec.ofInt 64 15).toNat = 2 ^ 4 - 1 := by decide
    have h2' : (BitVec.ofInt 64 (y : Int)).toNat = y := by
      rw [BitVec.ofInt_natCast, BitVec.toNat_ofNat]
      exact Nat.mod_eq_of_lt (by omega)
    rw [h1', h2', Nat.and_two_pow_sub_one_eq_mod]
  show IntKind.wrap .i64 ((BitVec.ofInt 64 (y : Int) &&& BitVec.ofInt 64 15).toNat : Int) = (y : Int) % 16
  rw [h]
  have := w64_id (n := ((y % 16 : Nat) : Int)) (by omega) (by omega)
  rw [show IntKind.wrap .i64 ((y % 16 : Nat) : Int) = ((y % 16 : Nat) : Int) from this]
  omega
def hexD : Str := [48, 49, 50, 51, 52, 53, 54, 55, 56, 57, 97, 98, 99, 100, 101, 102]
def dig (d : Nat) : UInt8 := hexD.getD d 0
theorem dig_get {d : Nat} (h : d < 16) : getI ([48, 49, 50, 51, 52, 53, 54, 55, 56, 57, 97, 98, 99, 100, 101, 102] : Str) (d : Int) = some (dig d) := by
  have : ((List.range 16).all fun d => getI ([48, 49, 50, 51, 52, 53, 54, 55, 56, 57, 97, 98, 99, 100, 101, 102] : Str) (d : Int) == some (dig d)) = true := by decide
  have := List.all_eq_true.1 this d (List.mem_range.2 h)
  exact eq_of_beq this
theorem dig_idx {d : Nat} (h : d < 16) : idxB ([48, 49, 50, 51, 52, 53, 54, 55, 56, 57, 97, 98, 99, 100, 101, 102] : Str) ((dig d).toNat : Int) = (d : Int) := by
  have : ((List.range 16).all fun d => idxB ([48, 49, 50, 51, 52, 53, 54, 55, 56, 57, 97, 98, 99, 100, 101, 102] : Str) ((dig d).toNat : Int) == (d : Int)) = true := by decide
  have := List.all_eq_true.1 this d (List.mem_range.2 h)
  exact eq_of_beq this
theorem dig_ne {d : Nat} (h : d < 16) : dig d ≠ 44 := by
  have : ((List.range 16).all fun d => decide (dig d ≠ 44)) = true := by decide
  exact of_decide_eq_true (List.all_eq_true.1 this d (List.mem_range.2 h))
/-- The lowest k digits of a word, the highest of them first. -/
def hexS (v : Nat) : Nat → Str
  | 0 => []
  | k + 1 => dig (v / 16 ^ k % 16) :: hexS v k
theorem hexS_len (v : Nat) : ∀ k, (hexS v k).length = k
  | 0 => rfl
  | k + 1 => by unfold hexS; rw [List.length_cons, hexS_len v k]
theorem hexS_ne (v : Nat) : ∀ k, ∀ c ∈ hexS v k, c ≠ 44
  | 0, _, h => nomatch h
  | k + 1, c, h => by
    unfold hexS at h
    rcases List.mem_cons.1 h with rfl | h
    · exact dig_ne (Nat.mod_lt _ (by omega))
    · exact hexS_ne v k c h
theorem hexS_get (v : Nat) : ∀ k i, i < k → (hexS v k)[i]? = some (dig (v / 16 ^ (k - 1 - i) % 16))
  | 0, i, h => by omega
  | k + 1, i, h => by
    unfold hexS
    cases i with
    | zero => simp
    | succ i =>
      rw [List.getElem?_cons_succ, hexS_get v k i (by omega)]
      rw [show k + 1 - 1 - (i + 1) = k - 1 - i by omega]
theorem chars_app (a b : List Int) : chars (a ++ b) = chars a ++ chars b := by unfold chars; rw [List.map_append]
theorem chars_one (c : UInt8) : chars [(c.toNat : Int)] = [c] := by
  unfold chars
  simp
theorem hex_l2 (n : Nat) {x : Nat} (h : Wd x) : ∀ (m k : Nat) (acc : List Int), k < m → acc.length + k = 8 → m_impl_hexText_l2 n x m acc (4 * (k : Int) - 4) = some (chars acc ++ hexS (bitsN x) k)
  | 0, k, _, hk, _ => by omega
  | m + 1, k, acc, hkm, hl => by
    unfold m_impl_hexText_l2
    by_cases hk : k = 0
    · subst hk
      rw [if_neg (by omega)]
      unfold m_impl_hexText_j1 hexS
      rw [List.append_nil]
    · obtain ⟨k, rfl⟩ : ∃ j, k = j + 1 := ⟨k - 1, by omega⟩
      have hw : w64 (4 * ((k + 1 : Nat) : Int) - 4 - 4) = 4 * (k : Int) - 4 := by rw [w64_id (by omega) (by omega)]; omega
      have hv : (4 * ((k + 1 : Nat) : Int) - 4) = ((4 * k : Nat) : Int) := by omega
      have hb := bitsN_lt h
      have hd : (bitsN x : Int).fdiv (2 ^ min (((4 * k : Nat) : Int)).toNat (IntKind.bits .i64)) = ((bitsN x / 16 ^ k : Nat) : Int) := by
        rw [Int.toNat_natCast, show IntKind.bits .i64 = 64 from rfl, Nat.min_eq_left (by omega)]
        rw [show (2 : Int) ^ (4 * k) = ((16 ^ k : Nat) : Int) by rw [Int.pow_mul]; simp]
        rw [Int.fdiv_eq_ediv_of_nonneg _ (Int.natCast_nonneg _)]
        rfl
      have hq : bitsN x / 16 ^ k < 4294967296 := Nat.lt_of_le_of_lt (Nat.div_le_self _ _) hb
      rw [if_pos (by omega), bits_ok n h, Option.bind_some, grd_pos (by omega), hw, hv, hd, and15 (Int.natCast_nonneg _) (by generalize bitsN x / 16 ^ k = q at hq ⊢; omega)]
      rw [show ((bitsN x / 16 ^ k : Nat) : Int) % 16 = ((bitsN x / 16 ^ k % 16 : Nat) : Int) from rfl]
      rw [dig_get (Nat.mod_lt _ (by omega)), Option.bind_some, grd_pos (by unfold room; omega)]
      rw [hex_l2 n h m k _ (by omega) (by rw [List.length_append, List.length_singleton]; omega), chars_app, chars_one]
      rw [List.append_assoc]
      rfl
theorem hex_ok {n : Nat} (hn : 20 ≤ n) {x : Nat} (h : Wd x) : m_impl_hexText n x = some (hexS (bitsN x) 8) := by
  unfold m_impl_hexText
  exact hex_l2 n h n 8 [] (by omega) rfl
theorem read_l2 (n : Nat) {x : Nat} (h : Wd x) : ∀ (m i : Nat), i ≤ 8 → 8 - i < m → m_impl_readNumber_l2 n (hexS (bitsN x) 8) m ((bitsN x / 16 ^ (8 - i) : Nat) : Int) (i : Int) = some (x, true)
  | 0, i, _, hm => by omega
  | m + 1, i, hi, hm => by
    unfold m_impl_readNumber_l2
    have hl : ((hexS (bitsN x) 8).length : Int) = 8 := by rw [hexS_len]; rfl
    rw [hl]
    have hb := bitsN_lt h
    by_cases hk : i = 8
    · subst hk
      rw [if_neg (by omega)]
      unfold m_impl_readNumber_j1
      rw [Nat.sub_self, Nat.pow_zero, Nat.div_one, from_ok n h, Option.bind_some, hl, if_pos rfl, bits_ok n h, Option.bind_some]
      simp
    · have hg : getI (hexS (bitsN x) 8) (i : Int) = some (dig (bitsN x / 16 ^ (7 - i) % 16)) := by
        unfold getI
        rw [if_pos (by omega), Int.toNat_natCast, hexS_get _ _ _ (by omega), show 8 - 1 - i = 7 - i by omega]
      rw [if_pos (by omega), hg, Option.bind_some]
      unfold m_strings_IndexByte m_stringslite_IndexByte
      rw [dig_idx (Nat.mod_lt _ (by omega)), Option.bind_some, Option.bind_some, if_neg (by omega)]
      unfold m_impl_readNumber_j5
      rw [if_neg (by rw [decide_eq_true_eq]; omega)]
      unfold m_impl_readNumber_j4 m_impl_readNumber_j3
      have e : bitsN x / 16 ^ (8 - i) = bitsN x / 16 ^ (7 - i) / 16 := by
        rw [show 8 - i = (7 - i) + 1 by omega, Nat.pow_succ, Nat.div_div_eq_div_mul]
      have hq : bitsN x / 16 ^ (7 - i) < 4294967296 := Nat.lt_of_le_of_lt (Nat.div_le_self _ _) hb
      have := read_l2 n h m (i + 1) (by omega) (by omega)
      rw [show 8 - (i + 1) = 7 - i by omega] at this
      rw [e]
      generalize bitsN x / 16 ^ (7 - i) = q at *
      rw [w64_id (n := ((q / 16 : Nat) : Int) * 16) (by omega) (by omega), w64_id (by omega) (by omega), w64_id (by omega) (by omega)]
      rw [show ((q / 16 : Nat) : Int) * 16 + ((q % 16 : Nat) : Int) = (q : Int) by omega]
      exact this
theorem read_ok {n : Nat} (hn : 20 ≤ n) {x : Nat} (h : Wd x) : m_impl_readNumber n (hexS (bitsN x) 8) = some (x, true) := by
  unfold m_impl_readNumber
  have := read_l2 n h n 0 (by omega) (by omega)
  have hb := bitsN_lt h
  rw [show bitsN x / 16 ^ (8 - 0) = 0 from Nat.div_eq_of_lt (by show bitsN x < 4294967296; exact hb)] at this
  exact this
end Go.Proofs.YtdgkahieegcmeaaDoor.AWN

namespace Go.Proofs.YtdgkahieegcmeaaDoor.AWN
open Go

def tl : List Str → Str
  | [] => []
  | y :: r => 44 :: (y ++ tl r)
theorem joinT_tl : ∀ (r : List Str) (out : Str), joinT [44] out r = out ++ tl r
  | [], out => by unfold joinT tl; rw [List.append_nil]
  | y :: r, out => by
    unfold joinT tl
    rw [joinT_tl r]
    simp
theorem tl_len : ∀ (r : List Str) {L : Nat}, (∀ z ∈ r, z.length ≤ L) → r.length ≤ (tl r).length ∧ (tl r).length ≤ r.length * (L + 1)
  | [], L, _ => by simp [tl]
  | y :: r, L, h => by
    have h1 := h y List.mem_cons_self
    obtain ⟨h2, h3⟩ := tl_len r (L := L) fun z hz => h z (List.mem_cons_of_mem _ hz)
    unfold tl
    rw [List.length_cons, List.length_cons, List.length_append, Nat.succ_mul]
    omega
theorem idx_none {s : Str} (h : ∀ c ∈ s, c ≠ 44) : idxB s 44 = -1 := by
  unfold idxB
  have : (List.range s.length).find? (fun i => s.getD i 0 == (44 : Int).toNat.toUInt8) = none := by
    rw [List.find?_eq_none]
    intro i hi
    have hi := List.mem_range.1 hi
    rw [List.getD_eq_getElem?_getD, List.getElem?_eq_getElem hi, Option.getD_some]
    have := h _ (List.getElem_mem hi)
    intro e
    exact this (eq_of_beq e)
  rw [this]
theorem idx_at {x t : Str} (h : ∀ c ∈ x, c ≠ 44) : idxB (x ++ 44 :: t) 44 = (x.length : Int) := by
  unfold idxB
  have : (List.range (x ++ 44 :: t).length).find? (fun i => (x ++ 44 :: t).getD i 0 == (44 : Int).toNat.toUInt8) = some x.length := by
    rw [List.find?_range_eq_some]
    refine ⟨?_, ?_, ?_⟩
    · rw [List.getD_eq_getElem?_getD, List.getElem?_append_right (Nat.le_refl _), Nat.sub_self]; rfl
    · simp
    · intro j hj
      rw [List.getD_eq_getElem?_getD, List.getElem?_append_left hj, List.getElem?_eq_getElem hj, Option.getD_some]
      have := h _ (List.getElem_mem hj)
      rw [Bool.not_eq_true']
      exact beq_eq_false_iff_ne.2 this
  rw [this]
def cntF : Int → UInt8 → Int := fun n x => if x == (44 : Int).toNat.toUInt8 then n + 1 else n
theorem cnt_none : ∀ (s : Str) (b : Int), (∀ c ∈ s, c ≠ 44) → s.foldl cntF b = b
  | [], b, _ => rfl
  | c :: s, b, h => by
    rw [List.foldl_cons, show cntF b c = b from if_neg (by intro e; exact h c List.mem_cons_self (eq_of_beq e))]
    exact cnt_none s b fun z hz => h z (List.mem_cons_of_mem _ hz)
theorem cnt_tl : ∀ (r : List Str) (b : Int), (∀ z ∈ r, ∀ c ∈ z, c ≠ 44) → (tl r).foldl cntF b = b + (r.length : Int)
  | [], b, _ => by simp [tl]
  | y :: r, b, h => by
    unfold tl
    rw [List.foldl_cons, List.foldl_append, show cntF b 44 = b + 1 from if_pos rfl, cnt_none y _ (h y List.mem_cons_self), cnt_tl r _ fun z hz => h z (List.mem_cons_of_mem _ hz), List.length_cons]
    omega
theorem cnt_join {x : Str} {r : List Str} (h : ∀ z ∈ x :: r, ∀ c ∈ z, c ≠ 44) : cntB (x ++ tl r) 44 = (r.length : Int) := by
  show (x ++ tl r).foldl cntF 0 = _
  rw [List.foldl_append, cnt_none x _ (h x List.mem_cons_self), cnt_tl r _ fun z hz => h z (List.mem_cons_of_mem _ hz)]
  omega
theorem index_ok (n : Nat) {s : Str} (h : 5 ≤ s.length) : m_strings_Index n s [44] = some (idxB s 44) := by
  unfold m_strings_Index m_stringslite_Index
  have hne : decide (([44] : Str) = s) = false := by
    apply decide_eq_false
    intro e; rw [← e] at h; simp at h
  rw [if_neg (by decide), hne]
  unfold m_stringslite_Index_j1
  rw [if_neg (by decide), if_pos (by decide)]
  rfl
theorem getI_at {α : Type} {l : List α} {i : Nat} (h : i < l.length) : ∃ x, getI l (i : Int) = some x := by
  unfold getI
  rw [if_pos (by omega), Int.toNat_natCast, List.getElem?_eq_getElem h]
  exact ⟨_, rfl⟩
theorem split_l3 (n : Nat) (S : Str) : ∀ (m : Nat) (r : List Str) (x : Str) (done : List Str), r.length < m → (∀ z ∈ x :: r, (∀ c ∈ z, c ≠ 44) ∧ 5 ≤ z.length ∧ z.length ≤ 100) → done.length + r.length ≤ 1000 → done.length + r.length < S.length → S.length ≤ 1000000 →
    m_strings_genSplit_l3 n S [44] 0 ((done.length + r.length + 1 : Nat) : Int) m (x ++ tl r) (done ++ List.replicate (r.length + 1) []) (done.length : Int) = some (done ++ x :: r)
  | 0, r, x, done, h, _, _, _, _ => by omega
  | m + 1, r, x, done, hm, hz, hl, hS, hS2 => by
    unfold m_strings_genSplit_l3
    obtain ⟨hx1, hx2, hx3⟩ := hz x List.mem_cons_self
    have hT : w64 ((if (w64 ((S.length : Int) + (1 : Int))) < ((done.length + r.length + 1 : Nat) : Int) then (w64 ((S.length : Int) + (1 : Int))) else ((done.length + r.length + 1 : Nat) : Int)) - (1 : Int)) = ((done.length + r.length : Nat) : Int) := by
      rw [w64_id (n := (S.length : Int) + 1) (by omega) (by omega), if_neg (by omega), w64_id (by omega) (by omega)]
      omega
    rw [hT]
    have hal : (done ++ List.replicate (r.length + 1) ([] : Str)).length = done.length + r.length + 1 := by simp; omega
    obtain ⟨w, hw⟩ := getI_at (l := done ++ List.replicate (r.length + 1) ([] : Str)) (i := done.length) (by rw [hal]; omega)
    cases r with
    | nil =>
      rw [if_neg (by simp)]
      unfold m_strings_genSplit_j2
      rw [hw, Option.bind_some, w64_id (by omega) (by simp at hl; omega)]
      rw [grd_pos ⟨by omega, by omega, by rw [hal]; simp, by rw [hal]; omega⟩]
      congr 1
      rw [Int.toNat_natCast, show (((done.length : Int) + 1).toNat) = done.length + 1 by omega]
      simp [tl]
      rw [List.take_of_length_le (by simp)]
    | cons y r =>
      have hr : ∀ z ∈ y :: r, (∀ c ∈ z, c ≠ 44) ∧ 5 ≤ z.length ∧ z.length ≤ 100 := fun z h => hz z (List.mem_cons_of_mem _ h)
      have hlt := (tl_len (y :: r) (L := 100) fun z h => (hr z h).2.2)
      have e : x ++ tl (y :: r) = x ++ 44 :: (y ++ tl r) := rfl
      have el : (x ++ tl (y :: r)).length = x.length + (tl (y :: r)).length := List.length_append
      have hcl : (y :: r).length = r.length + 1 := List.length_cons
      rw [if_pos (by rw [hcl]; omega), index_ok n (by omega), Option.bind_some, e, idx_at hx1, ← e, if_neg (by omega)]
      have hX : ((x ++ tl (y :: r)).length : Int) = x.length + (tl (y :: r)).length := by rw [el]; omega
      have hb : (tl (y :: r)).length ≤ 200000 := by have := hlt.2; omega
      rw [Int.add_zero, w64_id (n := (x.length : Int)) (by omega) (by omega), grd_pos ⟨by omega, by omega, by omega⟩, hw, Option.bind_some]
      rw [show ((x.length : Int) + (([44] : Str).length : Int)) = (x.length : Int) + 1 from rfl, w64_id (n := (x.length : Int) + 1) (by omega) (by omega), w64_id (n := (done.length : Int) + 1) (by omega) (by omega)]
      have h1 : 1 ≤ (tl (y :: r)).length := by omega
      rw [grd_pos ⟨by omega, by omega, by omega⟩]
      have s1 : sub (x ++ tl (y :: r)) ((x.length : Int) + 1) ((x ++ tl (y :: r)).length : Int) = y ++ tl r := by
        unfold sub
        rw [e, show (((x.length : Int) + 1).toNat) = x.length + 1 by omega, Int.toNat_natCast]
        rw [List.drop_append, List.drop_eq_nil_of_le (Nat.le_succ _), List.nil_append, show x.length + 1 - x.length = 1 by omega, List.drop_succ_cons, List.drop_zero]
        apply List.take_of_length_le
        simp; omega
      have s2 : sub (x ++ tl (y :: r)) 0 (x.length : Int) = x := by
        unfold sub
        simp
      have s3 : (done ++ List.replicate ((y :: r).length + 1) ([] : Str)).set ((done.length : Int)).toNat x = (done ++ [x]) ++ List.replicate (r.length + 1) [] := by
        rw [Int.toNat_natCast, List.set_append_right _ _ (Nat.le_refl _), Nat.sub_self, hcl, List.replicate_succ, List.set_cons_zero, List.append_assoc]
        rfl
      rw [s1, s2, s3]
      have := split_l3 n S m r y (done ++ [x]) (by omega) hr (by rw [List.length_append, List.length_singleton]; omega) (by rw [List.length_append, List.length_singleton]; omega) hS2
      rw [List.length_append, List.length_singleton, List.append_assoc done [x] (y :: r), List.singleton_append] at this
      rw [hcl, show done.length + (r.length + 1) + 1 = done.length + 1 + r.length + 1 by omega]
      exact this
theorem split_ok {n : Nat} {x : Str} {r : List Str} (hz : ∀ z ∈ x :: r, (∀ c ∈ z, c ≠ 44) ∧ 5 ≤ z.length ∧ z.length ≤ 100) (hl : r.length ≤ 300) (hn : 400 ≤ n) : m_strings_Split n (x ++ tl r) [44] = some (x :: r) := by
  unfold m_strings_Split m_strings_genSplit m_strings_Count
  obtain ⟨hx1, hx2, hx3⟩ := hz x List.mem_cons_self
  have hlt := (tl_len r (L := 100) fun z h => (hz z (List.mem_cons_of_mem _ h)).2.2)
  have el : (x ++ tl r).length = x.length + (tl r).length := List.length_append
  rw [if_neg (by decide), if_neg (by decide), if_pos (by decide), if_neg (by decide), if_pos (by decide)]
  rw [show getI ([44] : Str) 0 = some 44 from rfl, Option.bind_some, Option.bind_some]
  rw [show cntB (x ++ tl r) (((44 : UInt8).toNat : Nat) : Int) = (r.length : Int) from cnt_join fun z hz' => (hz z hz').1]
  rw [w64_id (n := (r.length : Int) + 1) (by omega) (by omega)]
  unfold m_strings_genSplit_j1
  have hb : (tl r).length ≤ 200000 := by have := hlt.2; omega
  rw [w64_id (n := ((x ++ tl r).length : Int) + 1) (by omega) (by omega), if_neg (by omega)]
  rw [grd_pos ⟨by omega, by unfold room; omega⟩, show (((r.length : Int) + 1).toNat) = r.length + 1 by omega]
  have := split_l3 n (x ++ tl r) n r x [] (by omega) hz (by simp; omega) (by simp; omega) (by omega)
  simp only [List.length_nil, Nat.zero_add, List.nil_append] at this
  rw [show ((r.length : Int) + 1) = ((r.length + 1 : Nat) : Int) by omega]
  rw [show ((0 : Nat) : Int) = 0 from rfl] at this
  rw [this]
  rfl
theorem joined_parted {n : Nat} (hn : 400 ≤ n) {l : List Str} (hz : ∀ z ∈ l, (∀ c ∈ z, c ≠ 44) ∧ 5 ≤ z.length ∧ z.length ≤ 100) (hl : l.length ≤ 300) : ∃ s, m_impl_joined n l = some s ∧ m_impl_parted n s = some l := by
  cases l with
  | nil => exact ⟨[110, 111, 110, 101], rfl, rfl⟩
  | cons x r =>
    obtain ⟨hx1, hx2, hx3⟩ := hz x List.mem_cons_self
    have hcl : (x :: r).length = r.length + 1 := List.length_cons
    have hlt := (tl_len r (L := 100) fun z h => (hz z (List.mem_cons_of_mem _ h)).2.2)
    have hb : (tl r).length ≤ 200000 := by have := hlt.2; omega
    have el : (x ++ tl r).length = x.length + (tl r).length := List.length_append
    refine ⟨x ++ tl r, ?_, ?_⟩
    · unfold m_impl_joined m_strings_Join
      rw [if_neg (by rw [hcl]; omega)]
      cases r with
      | nil => show some x = some (x ++ []); rw [List.append_nil]
      | cons y r =>
        unfold joinM
        have hcl2 : (y :: r).length = r.length + 1 := List.length_cons
        dsimp only
        rw [joinT_tl, grd_pos ⟨by omega, by simp, fun z h => by have := (hz z h).2.2; omega, by omega⟩]
        rfl
    · unfold m_impl_parted
      rw [if_neg (by intro e; have := congrArg List.length e; rw [el] at this; simp at this; omega), split_ok hz (by omega) hn]
      rfl
end Go.Proofs.YtdgkahieegcmeaaDoor.AWN

namespace Go.Proofs.YtdgkahieegcmeaaDoor.AWN
open Go

/-- Two words. -/
def WdC (z : Cx) : Prop := Wd z.re ∧ Wd z.im
def hx (x : Nat) : Str := hexS (bitsN x) 8
def hxC (z : Cx) : Str := hx z.re ++ hx z.im
theorem hx_len (x : Nat) : (hx x).length = 8 := hexS_len _ _
theorem hx_ne (x : Nat) : ∀ c ∈ hx x, c ≠ 44 := hexS_ne _ _
theorem hxC_len (z : Cx) : (hxC z).length = 16 := by unfold hxC; rw [List.length_append, hx_len, hx_len]
theorem hxC_ne (z : Cx) : ∀ c ∈ hxC z, c ≠ 44 := fun c h => by
  rcases List.mem_append.1 h with h | h
  · exact hx_ne _ c h
  · exact hx_ne _ c h
theorem take_get {α : Type} {l : List α} {i : Nat} (h : i < l.length) : ∃ x, getI l (i : Int) = some x ∧ x ∈ l ∧ l.take (i + 1) = l.take i ++ [x] := by
  refine ⟨l[i], ?_, List.getElem_mem _, ?_⟩
  · unfold getI
    rw [if_pos (by omega), Int.toNat_natCast, List.getElem?_eq_getElem h]
  · rw [List.take_add_one, List.getElem?_eq_getElem h]; rfl
theorem ctext_l2 {n : Nat} (hn : 400 ≤ n) {l : List Cx} (hl : l.length ≤ 256) (hw : ∀ z ∈ l, WdC z) {s : Str} (hs : m_impl_joined n (l.map hxC) = some s) : ∀ (m i : Nat), i ≤ l.length → l.length - i < m → m_impl_ComplexText_l2 n l m ((l.take i).map hxC) (i : Int) = some (s, true)
  | 0, i, _, h => by omega
  | m + 1, i, hi, h => by
    unfold m_impl_ComplexText_l2
    by_cases hk : i = l.length
    · subst hk
      rw [if_neg (by omega)]
      unfold m_impl_ComplexText_j1
      rw [List.take_length, hs]; rfl
    · obtain ⟨z, e1, e2, e3⟩ := take_get (l := l) (i := i) (by omega)
      obtain ⟨h1, h2⟩ := hw z e2
      rw [if_pos (by omega), e1, Option.bind_some, hex_ok (by omega) h1, Option.bind_some, hex_ok (by omega) h2, Option.bind_some, grd_pos (by rw [hexS_len, hexS_len]; omega), grd_pos (by unfold room; rw [List.length_map, List.length_take]; omega), w64_id (by omega) (by omega)]
      have := ctext_l2 hn hl hw hs m (i + 1) (by omega) (by omega)
      rw [e3, List.map_append] at this
      exact this
theorem sub_left (a b : Str) : sub (a ++ b) 0 (a.length : Int) = a := by unfold sub; simp
theorem sub_right (a b : Str) : sub (a ++ b) (a.length : Int) ((a ++ b).length : Int) = b := by
  unfold sub
  simp
  rw [List.take_of_length_le (by omega)]
theorem cread_l1 {n : Nat} (hn : 400 ≤ n) {l : List Cx} (hl : l.length ≤ 256) (hw : ∀ z ∈ l, WdC z) : ∀ (m i : Nat), i ≤ l.length → l.length - i < m → m_impl_ReadComplex_l1 n (l.map hxC) m (l.take i) (i : Int) = some (l, true)
  | 0, i, _, h => by omega
  | m + 1, i, hi, h => by
    unfold m_impl_ReadComplex_l1
    by_cases hk : i = l.length
    · subst hk
      rw [if_neg (by rw [List.length_map]; omega), List.take_length]
    · obtain ⟨z, e1, e2, e3⟩ := take_get (l := l) (i := i) (by omega)
      obtain ⟨h1, h2⟩ := hw z e2
      have g : getI (l.map hxC) (i : Int) = some (hxC z) := by
        unfold getI at e1 ⊢
        rw [if_pos (by omega)] at e1 ⊢
        rw [List.getElem?_map, e1]; rfl
      have htl : (l.take i).length = i := by rw [List.length_take]; omega
      rw [if_pos (by rw [List.length_map]; omega), g, Option.bind_some, hxC_len, if_pos (by decide)]
      unfold m_impl_ReadComplex_j6
      rw [if_neg (by rw [decide_eq_true_eq, htl]; omega)]
      unfold m_impl_ReadComplex_j3
      have s1 : sub (hxC z) 0 8 = hx z.re := by
        have := sub_left (hx z.re) (hx z.im)
        rw [hx_len] at this; exact this
      have s2 : sub (hxC z) 8 ((hxC z).length : Int) = hx z.im := by
        have := sub_right (hx z.re) (hx z.im)
        rw [hx_len] at this; exact this
      rw [s1, s2, grd_pos (by rw [hxC_len]; decide), show m_impl_readNumber n (hx z.re) = some (z.re, true) from read_ok (by omega) h1, Option.bind_some, grd_pos (by rw [hxC_len]; decide), show m_impl_readNumber n (hx z.im) = some (z.im, true) from read_ok (by omega) h2, Option.bind_some, if_pos rfl]
      unfold m_impl_ReadComplex_j5
      rw [if_neg (by simp)]
      unfold m_impl_ReadComplex_j4 m_impl_ReadComplex_j2
      rw [grd_pos (by unfold room; rw [htl]; omega), w64_id (by omega) (by omega)]
      have := cread_l1 hn hl hw m (i + 1) (by omega) (by omega)
      rw [e3] at this
      exact this
theorem complex_text {n : Nat} (hn : 400 ≤ n) {l : List Cx} (hl : l.length ≤ 256) (hw : ∀ z ∈ l, WdC z) : ∃ s, m_impl_ComplexText n l = some (s, true) ∧ m_impl_ReadComplex n s = some (l, true) := by
  obtain ⟨s, e1, e2⟩ := joined_parted hn (l := l.map hxC) (fun z hz => by
    obtain ⟨y, _, rfl⟩ := List.mem_map.1 hz
    exact ⟨hxC_ne y, by rw [hxC_len]; omega, by rw [hxC_len]; omega⟩) (by rw [List.length_map]; omega)
  refine ⟨s, ?_, ?_⟩
  · unfold m_impl_ComplexText m_impl_complexOk
    rw [Option.bind_some, if_pos (by rw [decide_eq_true_eq]; omega)]
    exact ctext_l2 hn hl hw e1 n 0 (by omega) (by omega)
  · unfold m_impl_ReadComplex
    rw [e2, Option.bind_some]
    exact cread_l1 hn hl hw n 0 (by omega) (by omega)
theorem ntext_l2 {n : Nat} (hn : 400 ≤ n) {l : List Nat} (hl : l.length ≤ 256) (hw : ∀ z ∈ l, Wd z) {s : Str} (hs : m_impl_joined n (l.map hx) = some s) : ∀ (m i : Nat), i ≤ l.length → l.length - i < m → m_impl_NumbersText_l2 n l m ((l.take i).map hx) (i : Int) = some (s, true)
  | 0, i, _, h => by omega
  | m + 1, i, hi, h => by
    unfold m_impl_NumbersText_l2
    by_cases hk : i = l.length
    · subst hk
      rw [if_neg (by omega)]
      unfold m_impl_NumbersText_j1
      rw [List.take_length, hs]; rfl
    · obtain ⟨z, e1, e2, e3⟩ := take_get (l := l) (i := i) (by omega)
      have h1 := hw z e2
      rw [if_pos (by omega), e1, Option.bind_some, hex_ok (by omega) h1, Option.bind_some, grd_pos (by unfold room; rw [List.length_map, List.length_take]; omega), w64_id (by omega) (by omega)]
      have := ntext_l2 hn hl hw hs m (i + 1) (by omega) (by omega)
      rw [e3, List.map_append] at this
      exact this
theorem nread_l1 {n : Nat} (hn : 400 ≤ n) {l : List Nat} (hl : l.length ≤ 256) (hw : ∀ z ∈ l, Wd z) : ∀ (m i : Nat), i ≤ l.length → l.length - i < m → m_impl_ReadNumbers_l1 n (l.map hx) m (l.take i) (i : Int) = some (l, true)
  | 0, i, _, h => by omega
  | m + 1, i, hi, h => by
    unfold m_impl_ReadNumbers_l1
    by_cases hk : i = l.length
    · subst hk
      rw [if_neg (by rw [List.length_map]; omega), List.take_length]
    · obtain ⟨z, e1, e2, e3⟩ := take_get (l := l) (i := i) (by omega)
      have h1 := hw z e2
      have g : getI (l.map hx) (i : Int) = some (hx z) := by
        unfold getI at e1 ⊢
        rw [if_pos (by omega)] at e1 ⊢
        rw [List.getElem?_map, e1]; rfl
      have htl : (l.take i).length = i := by rw [List.length_take]; omega
      rw [if_pos (by rw [List.length_map]; omega), g, Option.bind_some, show m_impl_readNumber n (hx z) = some (z, true) from read_ok (by omega) h1, Option.bind_some, if_pos rfl]
      unfold m_impl_ReadNumbers_j4
      rw [if_neg (by rw [decide_eq_true_eq, htl]; omega)]
      unfold m_impl_ReadNumbers_j3 m_impl_ReadNumbers_j2
      rw [grd_pos (by unfold room; rw [htl]; omega), w64_id (by omega) (by omega)]
      have := nread_l1 hn hl hw m (i + 1) (by omega) (by omega)
      rw [e3] at this
      exact this
theorem numbers_text {n : Nat} (hn : 400 ≤ n) {l : List Nat} (hl : l.length ≤ 256) (hw : ∀ z ∈ l, Wd z) : ∃ s, m_impl_NumbersText n l = some (s, true) ∧ m_impl_ReadNumbers n s = some (l, true) := by
  obtain ⟨s, e1, e2⟩ := joined_parted hn (l := l.map hx) (fun z hz => by
    obtain ⟨y, _, rfl⟩ := List.mem_map.1 hz
    exact ⟨hx_ne y, by rw [hx_len]; omega, by rw [hx_len]; omega⟩) (by rw [List.length_map]; omega)
  refine ⟨s, ?_, ?_⟩
  · unfold m_impl_NumbersText m_impl_listOk
    rw [Option.bind_some, if_pos (by rw [decide_eq_true_eq]; omega)]
    exact ntext_l2 hn hl hw e1 n 0 (by omega) (by omega)
  · unfold m_impl_ReadNumbers
    rw [e2, Option.bind_some]
    exact nread_l1 hn hl hw n 0 (by omega) (by omega)
end Go.Proofs.YtdgkahieegcmeaaDoor.AWN

namespace Go.Proofs.YtdgkahieegcmeaaDoor.AWN
open Go

theorem one_some (n : Nat) {s : SL00Src} {b : Int} (h : Src s b) (hb : b ≤ 900000) (k : Int) (hk : k ≤ 100000) : ∃ v s', m_spec_l00Src_one n s k = some (v, s') ∧ Src s' (b + 2) := by
  obtain ⟨v, s', e, _, _, h'⟩ := pick_some n h hb k hk
  unfold m_spec_l00Src_one
  rw [e]
  exact ⟨_, s', rfl, h'⟩
theorem among_some (n : Nat) {s : SL00Src} {b : Int} (h : Src s b) (hb : b ≤ 900000) (l : List Int) (h0 : 1 ≤ l.length) (hl : l.length ≤ 1000) : ∃ v s', m_spec_l00Src_among n s l = some (v, s') ∧ Src s' (b + 2) := by
  obtain ⟨v, s', e, v0, v1, h'⟩ := pick_lt n h hb (l.length : Int) (by omega) (by omega)
  obtain ⟨x, e2, _, _⟩ := getI_of (l := l) v0 v1
  unfold m_spec_l00Src_among
  rw [e, Option.bind_some, e2]
  exact ⟨x, s', rfl, h'⟩
theorem from_some (n : Nat) (z : Int) : ∃ x, m_spec_l01From n z = some x ∧ Wd x := by
  unfold m_spec_l01From
  have : (IntKind.wrap .u32 z).toNat < 4294967296 := by
    simp only [IntKind.wrap, IntKind.signed, IntKind.bits]
    simp
    omega
  rw [grd_pos this]
  exact ⟨_, rfl, wd_canon this⟩
theorem plain_some (n : Nat) {s : SL00Src} {b : Int} (h : Src s b) (hb : b ≤ 800000) : ∃ x s', m_spec_l01DrawPlain n s = some (x, s') ∧ Wd x ∧ Src s' (b + 4) := by
  obtain ⟨v, s1, e, _, _, h1⟩ := pick_some n h (by omega) 129 (by decide)
  obtain ⟨w, s2, e2, h2⟩ := one_some n h1 (by omega) 4 (by decide)
  unfold m_spec_l01DrawPlain
  rw [e, Option.bind_some, e2, Option.bind_some]
  have h2 : Src s2 (b + 4) := h2.mono (by omega)
  dsimp only
  split
  · exact ⟨_, _, rfl, wd_arith _ _ _, h2⟩
  · exact ⟨_, _, rfl, wd_arith _ _ _, h2⟩
theorem float_some (n : Nat) {s : SL00Src} {b : Int} (h : Src s b) (hb : b ≤ 750000) : ∃ x s', m_spec_l01DrawFloat n s = some (x, s') ∧ Wd x ∧ Src s' (b + 12) := by
  obtain ⟨v, s1, e, h1⟩ := one_some n h (by omega) 12 (by decide)
  unfold m_spec_l01DrawFloat
  rw [e, Option.bind_some]
  dsimp only
  split
  · obtain ⟨k, s2, e2, _, _, h2⟩ := pick_some n h1 (by omega) 4 (by decide)
    rw [e2, Option.bind_some]
    dsimp only
    split
    · obtain ⟨a, s3, e3, h3⟩ := among_some n h2 (by omega) [(0 : Int), (2147483648 : Int), (2139095040 : Int), (4286578688 : Int), (2143289344 : Int), (1 : Int), (2139095039 : Int), (8388608 : Int), (8388607 : Int), (2147483649 : Int)] (by decide) (by decide)
      obtain ⟨x, e4, hx⟩ := from_some n a
      rw [e3, Option.bind_some]
      dsimp only
      rw [e4, Option.bind_some]
      exact ⟨_, _, rfl, hx, h3.mono (by omega)⟩
    · split
      · obtain ⟨a, s3, e3, _, _, h3⟩ := pick_some n h2 (by omega) 65536 (by decide)
        obtain ⟨c, s4, e4, _, _, h4⟩ := pick_some n h3 (by omega) 65536 (by decide)
        obtain ⟨x, e5, hx⟩ := from_some n (w64 ((w64 (a * (65536 : Int))) + c))
        rw [e3, Option.bind_some]
        dsimp only
        rw [e4, Option.bind_some]
        dsimp only
        rw [e5, Option.bind_some]
        exact ⟨_, _, rfl, hx, h4.mono (by omega)⟩
      · split
        · obtain ⟨a, s3, e3, _, _, h3⟩ := pick_some n h2 (by omega) 65536 (by decide)
          obtain ⟨x, e5, hx⟩ := from_some n (w64 (a * (65536 : Int)))
          rw [e3, Option.bind_some]
          dsimp only
          rw [e5, Option.bind_some]
          exact ⟨_, _, rfl, hx, h3.mono (by omega)⟩
        · obtain ⟨p, s3, e3, _, h3⟩ := plain_some n h2 (by omega)
          obtain ⟨a, s4, e4, h4⟩ := among_some n h3 (by omega) [(8388608 : Int), (2130706432 : Int), (1610612736 : Int), (536870912 : Int)] (by decide) (by decide)
          obtain ⟨x, e5, hx⟩ := from_some n a
          rw [e3, Option.bind_some]
          dsimp only
          rw [e4, Option.bind_some]
          dsimp only
          rw [e5, Option.bind_some]
          exact ⟨_, _, rfl, wd_arith _ _ _, h4.mono (by omega)⟩
  · obtain ⟨p, s3, e3, hp, h3⟩ := plain_some n h1 (by omega)
    rw [e3, Option.bind_some]
    exact ⟨_, _, rfl, hp, h3.mono (by omega)⟩
theorem cx_some (n : Nat) {s : SL00Src} {b : Int} (h : Src s b) (hb : b ≤ 700000) : ∃ x s', m_spec_l01DrawComplex n s = some (x, s') ∧ WdC x ∧ Src s' (b + 24) := by
  obtain ⟨x, s1, e, hx, h1⟩ := float_some n h (by omega)
  obtain ⟨y, s2, e2, hy, h2⟩ := float_some n h1 (by omega)
  unfold m_spec_l01DrawComplex
  rw [e, Option.bind_some]
  dsimp only
  rw [e2, Option.bind_some]
  exact ⟨_, _, rfl, ⟨hx, hy⟩, h2.mono (by omega)⟩
theorem fine_some (n : Nat) {s : SL00Src} {b : Int} (h : Src s b) (hb : b ≤ 700000) : ∃ x s', m_spec_l01DrawFine n s = some (x, s') ∧ WdC x ∧ Src s' (b + 24) := by
  obtain ⟨x, s1, e, _, _, h1⟩ := pick_some n h (by omega) 65 (by decide)
  obtain ⟨y, s2, e2, _, _, h2⟩ := pick_some n h1 (by omega) 65 (by decide)
  unfold m_spec_l01DrawFine
  rw [e, Option.bind_some]
  dsimp only
  rw [e2, Option.bind_some]
  exact ⟨_, _, rfl, ⟨wd_arith .quo _ _, wd_arith .quo _ _⟩, h2.mono (by omega)⟩
theorem cxs_l1 (n : Nat) (x28 : Bool × SL00Src) : ∀ (m k : Nat) (s : SL00Src) (b : Int) (acc : List Cx), k < m → Src s b → b + 24 * k ≤ 600000 → acc.length + k ≤ 100 → (∀ z ∈ acc, WdC z) →
    ∃ l s', m_spec_l01DrawComplexes_l1 n x28 m s.code s.at_ s.seed (k : Int) acc = some (l, s') ∧ l.length = acc.length + k ∧ ∀ z ∈ l, WdC z
  | 0, k, s, b, acc, h, _, _, _, _ => by omega
  | m + 1, k, s, b, acc, hk, h, hb, hl, ha => by
    unfold m_spec_l01DrawComplexes_l1
    by_cases h0 : k = 0
    · subst h0
      rw [if_neg (by omega)]
      exact ⟨_, _, rfl, by omega, ha⟩
    · obtain ⟨k, rfl⟩ : ∃ j, k = j + 1 := ⟨k - 1, by omega⟩
      have hw : w64 (((k + 1 : Nat) : Int) - 1) = (k : Int) := by rw [w64_id (by omega) (by omega)]; omega
      rw [if_pos (by omega)]
      have go : ∀ (x : Cx) (s' : SL00Src), WdC x → Src s' (b + 24) → ∃ l s'', m_spec_l01DrawComplexes_j2 n (m_spec_l01DrawComplexes_l1 n x28 m) ((k + 1 : Nat) : Int) s'.code s'.at_ s'.seed (acc ++ [x]) = some (l, s'') ∧ l.length = acc.length + (k + 1) ∧ ∀ z ∈ l, WdC z := by
        intro x s' hx h'
        unfold m_spec_l01DrawComplexes_j2
        rw [hw]
        obtain ⟨l, s'', e, e2, e3⟩ := cxs_l1 n x28 m k s' (b + 24) (acc ++ [x]) (by omega) h' (by omega) (by rw [List.length_append, List.length_singleton]; omega) (fun z hz => by
          rcases List.mem_append.1 hz with hz | hz
          · exact ha z hz
          · rw [List.mem_singleton.1 hz]; exact hx)
        exact ⟨l, s'', e, by rw [e2, List.length_append, List.length_singleton]; omega, e3⟩
      split
      · obtain ⟨x, s', e, hx, h'⟩ := cx_some n (s := SL00Src.mk s.code s.at_ s.seed) h (by omega)
        rw [e, Option.bind_some, grd_pos (by unfold room; omega)]
        exact go x s' hx h'
      · obtain ⟨x, s', e, hx, h'⟩ := fine_some n (s := SL00Src.mk s.code s.at_ s.seed) h (by omega)
        rw [e, Option.bind_some, grd_pos (by unfold room; omega)]
        exact go x s' hx h'
theorem src_new {code : List Int} (h : ∀ x ∈ code, 0 ≤ x ∧ x < 256) : Src (SL00Src.mk code 0 0) 0 := ⟨by simp, by simp, h⟩
theorem any_some {n : Nat} (hn : 400 ≤ n) {code : List Int} (h : ∀ x ∈ code, 0 ≤ x ∧ x < 256) {k : Int} (h0 : 0 ≤ k) (h1 : k ≤ 50) : ∃ l, m_spec_B10Any n code k = some l ∧ l.length ≤ 50 ∧ ∀ z ∈ l, WdC z := by
  obtain ⟨v, s1, e, h1'⟩ := one_some n (src_new h) (by omega) 5 (by decide)
  obtain ⟨j, rfl⟩ := Int.eq_ofNat_of_zero_le h0
  obtain ⟨l, s2, e2, e3, e4⟩ := cxs_l1 n (v, s1) n j s1 2 [] (by omega) (h1'.mono (by omega)) (by omega) (by simp; omega) (fun z hz => nomatch hz)
  unfold m_spec_B10Any m_spec_l00From m_spec_l01DrawComplexes
  rw [Option.bind_some, e, Option.bind_some]
  dsimp only
  rw [e2]
  exact ⟨l, rfl, by simp at e3; omega, e4⟩
theorem fls_l1 (n : Nat) (x28 : Bool × SL00Src) : ∀ (m k : Nat) (s : SL00Src) (b : Int) (acc : List Nat), k < m → Src s b → b + 24 * k ≤ 600000 → acc.length + k ≤ 100 → (∀ z ∈ acc, Wd z) →
    ∃ l s', m_spec_l01DrawFloats_l1 n x28 m s.code s.at_ s.seed (k : Int) acc = some (l, s') ∧ l.length = acc.length + k ∧ ∀ z ∈ l, Wd z
  | 0, k, s, b, acc, h, _, _, _, _ => by omega
  | m + 1, k, s, b, acc, hk, h, hb, hl, ha => by
    unfold m_spec_l01DrawFloats_l1
    by_cases h0 : k = 0
    · subst h0
      rw [if_neg (by omega)]
      exact ⟨_, _, rfl, by omega, ha⟩
    · obtain ⟨k, rfl⟩ : ∃ j, k = j + 1 := ⟨k - 1, by omega⟩
      have hw : w64 (((k + 1 : Nat) : Int) - 1) = (k : Int) := by rw [w64_id (by omega) (by omega)]; omega
      rw [if_pos (by omega)]
      have go : ∀ (x : Nat) (s' : SL00Src), Wd x → Src s' (b + 24) → ∃ l s'', m_spec_l01DrawFloats_j2 n (m_spec_l01DrawFloats_l1 n x28 m) ((k + 1 : Nat) : Int) s'.code s'.at_ s'.seed (acc ++ [x]) = some (l, s'') ∧ l.length = acc.length + (k + 1) ∧ ∀ z ∈ l, Wd z := by
        intro x s' hx h'
        unfold m_spec_l01DrawFloats_j2
        rw [hw]
        obtain ⟨l, s'', e, e2, e3⟩ := fls_l1 n x28 m k s' (b + 24) (acc ++ [x]) (by omega) h' (by omega) (by rw [List.length_append, List.length_singleton]; omega) (fun z hz => by
          rcases List.mem_append.1 hz with hz | hz
          · exact ha z hz
          · rw [List.mem_singleton.1 hz]; exact hx)
        exact ⟨l, s'', e, by rw [e2, List.length_append, List.length_singleton]; omega, e3⟩
      split
      · obtain ⟨x, s', e, hx, h'⟩ := float_some n (s := SL00Src.mk s.code s.at_ s.seed) h (by omega)
        rw [e, Option.bind_some, grd_pos (by unfold room; omega)]
        exact go x s' hx (h'.mono (by omega))
      · obtain ⟨x, s', e, hx, h'⟩ := plain_some n (s := SL00Src.mk s.code s.at_ s.seed) h (by omega)
        rw [e, Option.bind_some, grd_pos (by unfold room; omega)]
        exact go x s' hx (h'.mono (by omega))
theorem numbers_some {n : Nat} (hn : 400 ≤ n) {code : List Int} (h : ∀ x ∈ code, 0 ≤ x ∧ x < 256) {k : Int} (h0 : 0 ≤ k) (h1 : k ≤ 50) : ∃ l, m_spec_B10Numbers n code k = some l ∧ l.length ≤ 50 ∧ ∀ z ∈ l, Wd z := by
  obtain ⟨v, s1, e, h1'⟩ := one_some n (src_new h) (by omega) 4 (by decide)
  obtain ⟨j, rfl⟩ := Int.eq_ofNat_of_zero_le h0
  obtain ⟨l, s2, e2, e3, e4⟩ := fls_l1 n (v, s1) n j s1 2 [] (by omega) (h1'.mono (by omega)) (by omega) (by simp; omega) (fun z hz => nomatch hz)
  unfold m_spec_B10Numbers m_spec_l00From m_spec_l01DrawFloats
  rw [Option.bind_some, e, Option.bind_some]
  dsimp only
  rw [e2]
  exact ⟨l, rfl, by simp at e3; omega, e4⟩
theorem number_some' (n : Nat) {code : List Int} (h : ∀ x ∈ code, 0 ≤ x ∧ x < 256) : ∃ x, m_spec_B10Number n code = some x ∧ Wd x := by
  obtain ⟨v, s1, e, h1⟩ := one_some n (src_new h) (by omega) 2 (by decide)
  unfold m_spec_B10Number m_spec_l00From
  rw [Option.bind_some, e, Option.bind_some]
  dsimp only
  split
  · obtain ⟨a, s3, e3, _, _, h3⟩ := pick_some n h1 (by omega) 65536 (by decide)
    obtain ⟨c, s4, e4, _, _, h4⟩ := pick_some n h3 (by omega) 65536 (by decide)
    obtain ⟨x, e5, hx⟩ := from_some n (w64 ((w64 (a * (65536 : Int))) + c))
    rw [e3, Option.bind_some]
    dsimp only
    rw [e4, Option.bind_some]
    dsimp only
    rw [e5, Option.bind_some]
    exact ⟨_, rfl, hx⟩
  · obtain ⟨x, s3, e3, hx, h3⟩ := float_some n h1 (by omega)
    rw [e3, Option.bind_some]
    exact ⟨_, rfl, hx⟩
theorem complex_some (n : Nat) {code : List Int} (h : ∀ x ∈ code, 0 ≤ x ∧ x < 256) : ∃ x, m_spec_B10Complex n code = some x ∧ WdC x := by
  obtain ⟨v, s1, e, h1⟩ := one_some n (src_new h) (by omega) 4 (by decide)
  unfold m_spec_B10Complex m_spec_l00From
  rw [Option.bind_some, e, Option.bind_some]
  dsimp only
  split
  · obtain ⟨x, s3, e3, hx, h3⟩ := cx_some n h1 (by omega)
    rw [e3, Option.bind_some]
    exact ⟨_, rfl, hx⟩
  · obtain ⟨x, s3, e3, hx, h3⟩ := fine_some n h1 (by omega)
    rw [e3, Option.bind_some]
    exact ⟨_, rfl, hx⟩
end Go.Proofs.YtdgkahieegcmeaaDoor.AWN

namespace Go.Proofs.YtdgkahieegcmeaaDoor.AWN
open Go Ieee

theorem read_inf {x : Nat} (hx : x < 4294967296) {s : Bool} (h : single.read x = .infinity s) : single.write (.infinity s) = x := by
  have hsw : single.signWeight = 2147483648 := by decide
  have hir : single.infRung = 2139095040 := by decide
  have hbn : single.binade = 8388608 := by decide
  have hmr : maxRung single = 255 := by decide
  unfold Format.read at h
  simp only at h
  rw [hsw, hbn] at h
  split at h
  · cases h
  · split at h
    · cases h
    · split at h
      · rename_i h1 h2 h3
        injection h with h0
        subst h0
        have h2 : ¬ x % 2147483648 < 2139095040 := by rw [← hir]; exact h2
        have h3 : x % 2147483648 = 2139095040 := by rw [← hir]; exact h3
        have : x = 2139095040 ∨ x = 4286578688 := by omega
        rcases this with rfl | rfl <;> decide
      · cases h
theorem narrow_wide {x : Nat} (h : Wd x) : ∃ r, fconv .f32 .f64 x = some r ∧ fconv .f64 .f32 r = some x := by
  obtain ⟨r, e1, e2, e3⟩ := wide_some x
  refine ⟨r, e1, ?_⟩
  cases hr : single.read x with
  | nan s t =>
    have hn : isnan .f32 x = true := by
      unfold isnan
      rw [show FloatKind.f32.format.read x = single.read x from rfl, hr]; rfl
    have hx : x = qnan .f32 := by rw [← h.one, canon_of_nan hn]
    subst hx
    have : fconv .f32 .f64 (qnan .f32) = some (qnan .f64) := by decide
    rw [this] at e1
    cases e1
    decide
  | infinity s =>
    have hx := read_inf h.low hr
    cases s with
    | false =>
      have hx : x = 2139095040 := by rw [← hx]; decide
      subst hx
      have : fconv .f32 .f64 2139095040 = some 9218868437227405312 := by decide
      rw [this] at e1; cases e1; decide
    | true =>
      have hx : x = 4286578688 := by rw [← hx]; decide
      subst hx
      have : fconv .f32 .f64 4286578688 = some 18442240474082181120 := by decide
      rw [this] at e1; cases e1; decide
  | number s m p =>
    have hw := e3 s m p hr
    subst hw
    have hxd := ex_wide (ex_read sgl_ok hr)
    obtain ⟨a, P, hrd, hP⟩ := read_ex (fmtOk .f64) s hxd
    have hrd' : FloatKind.f64.decode (double.nearest s m p) = .number s (m * 2 ^ a) P := hrd
    unfold fconv
    rw [show fkEq .f64 .f32 = false from rfl, cond_false, hrd']
    have he : FloatKind.f32.encode (.number s (m * 2 ^ a) P) = x := by
      show single.nearest s (m * 2 ^ a) P = x
      have hback := nearest_read sgl_ok single.infRung_lt (by show x < 2 * single.signWeight; exact h.low) hr
      by_cases hm : m = 0
      · subst hm
        rw [Nat.zero_mul, nearest_zero]
        rw [nearest_zero] at hback
        exact hback
      · rw [nearest_shift, (hP hm).1, show p - (a : Int) + a = p by omega]
        exact hback
    have hd : FloatKind.f32.decode x = .number s m p := hr
    simp only [he, hd]
    rfl
theorem isnan_word {x : Nat} (hx : x < 4294967296) : isnan .f32 (Op.negFloat .f32 x) = isnan .f32 x := isnan_neg .f32 x hx
theorem neg_low {x : Nat} (hx : x < 4294967296) : Op.negFloat .f32 x < 4294967296 := by
  unfold Op.negFloat
  exact Nat.xor_lt_two_pow (n := 32) hx (by decide)
theorem neg_neg {x : Nat} : Op.negFloat .f32 (Op.negFloat .f32 x) = x := by
  unfold Op.negFloat
  rw [Nat.xor_assoc, Nat.xor_self, Nat.xor_zero]
theorem wd_neg {x : Nat} (h : Wd x) : Wd (fneg .f32 x) := wd_canon (neg_low h.low)
theorem fneg_twice {x : Nat} (h : Wd x) : fneg .f32 (fneg .f32 x) = x := by
  have e := fneg_eq .f32 (Op.negFloat .f32 x) (neg_low h.low)
  rw [neg_neg] at e
  show fneg .f32 (canon .f32 (Op.negFloat .f32 x)) = x
  rw [e]
  exact h.one
theorem same_impl (n : Nat) (x : Nat) : m_impl_SameNumber n x x = some true := by
  unfold m_impl_SameNumber m_impl_SameNumber_j2 m_impl_SameNumber_j1 m_impl_isNaN
  rw [neq_selfq]
  cases h : isnan .f32 x with
  | true => rfl
  | false =>
    simp only [Option.bind_some, grd]
    simp
theorem csame_impl (n : Nat) (x : Cx) : m_impl_SameComplex n x x = some true := by
  unfold m_impl_SameComplex
  rw [same_impl, Option.bind_some, if_pos rfl, same_impl]; rfl
theorem csame_ok (n : Nat) (x : Cx) : m_spec_SameComplex n x x = some true := by
  unfold m_spec_SameComplex m_spec_l01CSame
  have h1 : ∀ y, m_spec_l01Same n y y = some true := fun y => by
    have := same_ok n y
    unfold m_spec_SameNumber at this
    rw [Option.bind_eq_some_iff] at this
    obtain ⟨v, h, e⟩ := this
    cases e; exact h
  rw [h1, Option.bind_some, if_pos rfl, h1]; rfl
theorem bsame_l1 (n : Nat) {l : List Cx} : ∀ (m i : Nat), i ≤ l.length → l.length - i < m → l.length ≤ 1000 → m_laws_b10Same_l1 n l l m (i : Int) = some true
  | 0, i, _, h, _ => by omega
  | m + 1, i, hi, h, hl => by
    unfold m_laws_b10Same_l1
    by_cases hk : i = l.length
    · rw [if_neg (by omega)]
    · obtain ⟨z, e1, _, _⟩ := take_get (l := l) (i := i) (by omega)
      rw [if_pos (by omega), e1, Option.bind_some, Option.bind_some, csame_ok, Option.bind_some, if_pos rfl, w64_id (by omega) (by omega)]
      exact bsame_l1 n m (i + 1) (by omega) (by omega) hl
theorem bsame_ok {n : Nat} {l : List Cx} (hn : 60 ≤ n) (hl : l.length ≤ 50) : m_laws_b10Same n l l = some true := by
  unfold m_laws_b10Same
  rw [if_pos rfl]
  exact bsame_l1 n n 0 (by omega) (by omega) (by omega)
theorem fin_ok (n : Nat) (z : Cx) (hn : 10 ≤ n) : m_impl_IsFiniteComplex n z = some (fcmp .eql .f32 (farith .sub .f32 z.re z.re) 0 && fcmp .eql .f32 (farith .sub .f32 z.im z.im) 0) := by
  obtain ⟨m, rfl⟩ : ∃ m, n = m + 10 := ⟨n - 10, by omega⟩
  have hf : ∀ x : Nat, m_impl_finite_1 (m + 10) x = some (!fcmp .eql .f32 (farith .sub .f32 x x) 0) := fun x => rfl
  have h : ∀ a b : Bool, fcmp .eql .f32 (farith .sub .f32 z.re z.re) 0 = a → fcmp .eql .f32 (farith .sub .f32 z.im z.im) 0 = b → m_slices_IndexFunc (m + 10) [z.re, z.im] = some (if a then (if b then -1 else 1) else 0) := by
    intro a b ha hb
    have l2 : m_slices_IndexFunc_l1 (m + 10) [z.re, z.im] (m + 8) 2 = some (-1) := rfl
    have l1 : m_slices_IndexFunc_l1 (m + 10) [z.re, z.im] (m + 9) 1 = some (if b then -1 else 1) := by
      show (if (1 : Int) < (2 : Int) then (getI [z.re, z.im] 1).bind fun x18 => (m_impl_finite_1 (m + 10) x18).bind fun x19 => if x19 = true then some 1 else m_slices_IndexFunc_l1 (m + 10) [z.re, z.im] (m + 8) (w64 (1 + 1)) else some (-1)) = _
      rw [if_pos (by decide), show getI [z.re, z.im] 1 = some z.im from rfl, Option.bind_some, hf, Option.bind_some, hb]
      cases b
      · rfl
      · rw [if_neg (by decide), w64_id (by decide) (by decide)]; exact l2
    show (if (0 : Int) < (2 : Int) then (getI [z.re, z.im] 0).bind fun x18 => (m_impl_finite_1 (m + 10) x18).bind fun x19 => if x19 = true then some 0 else m_slices_IndexFunc_l1 (m + 10) [z.re, z.im] (m + 9) (w64 (0 + 1)) else some (-1)) = _
    rw [if_pos (by decide), show getI [z.re, z.im] 0 = some z.re from rfl, Option.bind_some, hf, Option.bind_some, ha]
    cases a
    · rfl
    · rw [if_neg (by decide), w64_id (by decide) (by decide)]; exact l1
  unfold m_impl_IsFiniteComplex m_impl_finite m_slices_ContainsFunc
  rw [h _ _ rfl rfl, Option.bind_some, Option.bind_some, Option.bind_some]
  cases fcmp .eql .f32 (farith .sub .f32 z.re z.re) 0 <;> cases fcmp .eql .f32 (farith .sub .f32 z.im z.im) 0 <;> rfl
theorem b10At_q (n : Nat) {l : List Int} (hl : ∀ x ∈ l, 0 ≤ x ∧ x < 256) {i k : Int} (hi : 0 ≤ i) (hi2 : i ≤ 1000000) (hk : 1 ≤ k) (hk2 : k ≤ 100000) : ∃ v, m_laws_b10At n l i k = some v ∧ 0 ≤ v ∧ v < k := by
  unfold m_laws_b10At
  by_cases h1 : k ≤ 1
  · rw [if_pos h1]; exact ⟨0, rfl, by omega, by omega⟩
  · rw [if_neg h1]
    unfold grd
    have hne : k ≠ 0 := by omega
    by_cases h2 : i < (l.length : Int)
    · obtain ⟨x, e, hm, _⟩ := getI_of hi h2
      have b := hl x hm
      rw [if_pos h2, e, Option.bind_some, if_pos hne, w64_id (by omega) (by omega), Int.tmod_eq_emod_of_nonneg b.1]
      exact ⟨_, rfl, Int.emod_nonneg _ hne, Int.emod_lt_of_pos _ (by omega)⟩
    · rw [if_neg h2, if_pos hne, w64_id (n := i * 37) (by omega) (by omega), w64_id (by omega) (by omega), Int.tmod_eq_emod_of_nonneg (by omega)]
      exact ⟨_, rfl, Int.emod_nonneg _ hne, Int.emod_lt_of_pos _ (by omega)⟩
/-- The second half of the law. -/
theorem products_j2 {n : Nat} (hn : 400 ≤ n) {c1 c2 : List Int} (h1 : ∀ x ∈ c1, 0 ≤ x ∧ x < 256) (h2 : ∀ x ∈ c2, 0 ≤ x ∧ x < 256) : m_laws_FnProducts_j2 n c1 c2 = some true := by
  unfold m_laws_FnProducts_j2
  obtain ⟨k, e0, k0, k1⟩ := b10At_q n h1 (i := 0) (k := 9) (by decide) (by decide) (by decide) (by decide)
  obtain ⟨l, e1, hl, hw⟩ := any_some hn h2 (k := k) k0 (by omega)
  obtain ⟨s, e2, e3⟩ := complex_text hn (l := l) (by omega) hw
  obtain ⟨x, e4, hx⟩ := number_some' n h1
  obtain ⟨z, e5, hz1, hz2⟩ := complex_some n h1
  obtain ⟨a, w1, w2⟩ := narrow_wide hz1
  obtain ⟨b, w3, w4⟩ := narrow_wide hz2
  rw [e0, Option.bind_some, e1, Option.bind_some, e2, Option.bind_some]
  dsimp only
  rw [e3, Option.bind_some, e4, Option.bind_some, bits_ok n hx, Option.bind_some, from_ok n hx, Option.bind_some, e5, Option.bind_some, w1, Option.bind_some, w3, Option.bind_some, if_pos rfl, if_pos rfl, if_pos rfl]
  rw [bsame_ok (by omega) hl, Option.bind_some, if_pos rfl, same_ok, Option.bind_some, if_pos rfl]
  have hn1 : m_impl_NarrowComplex n (Cx.mk a b) = some z := by
    unfold m_impl_NarrowComplex
    rw [w2, Option.bind_some, w4]; rfl
  have hc : ∀ y : Cx, m_impl_ConjugateOf n y = some (Cx.mk y.re (fneg .f32 y.im)) := fun y => rfl
  rw [hn1, Option.bind_some, csame_impl, Option.bind_some, if_pos rfl, hc, Option.bind_some, hc, Option.bind_some]
  dsimp only
  rw [fneg_twice hz2, show Cx.mk z.re z.im = z from rfl, csame_impl, Option.bind_some, if_pos rfl, fin_ok n z (by omega), Option.bind_some]
  unfold m_spec_IsFinite m_spec_l01Finite
  rw [Option.bind_some, Option.bind_some, Option.bind_some]
  cases fcmp .eql .f32 (farith .sub .f32 z.re z.re) 0 <;> cases fcmp .eql .f32 (farith .sub .f32 z.im z.im) 0 <;> rfl
end Go.Proofs.YtdgkahieegcmeaaDoor.AWN

namespace Go.Proofs.YtdgkahieegcmeaaDoor.AWN
open Go Ieee

theorem rng_one : Rng 4607182418800017408 1 1 := by
  have := rng_int 1 (by unfold Sm; decide)
  rw [show ofZ FloatKind.f64.format 1 0 = 4607182418800017408 by decide] at this
  exact this
theorem rng_eight : Rng 4620693217682128896 8 8 := by
  have := rng_int 8 (by unfold Sm; decide)
  rw [show ofZ FloatKind.f64.format 8 0 = 4620693217682128896 by decide] at this
  exact this
theorem rng_quarter : Rng 4598175219545276416 0 1 := rng_of (by unfold Sm; decide) (by unfold Sm; decide) ⟨by decide, fin_of_key (by decide) (by decide)⟩ (by decide) (by decide)
theorem rng_half : Rng 4602678819172646912 0 1 := rng_of (by unfold Sm; decide) (by unfold Sm; decide) ⟨by decide, fin_of_key (by decide) (by decide)⟩ (by decide) (by decide)
theorem rng_turn : Rng 4618760256179416344 1 7 := rng_of (by unfold Sm; decide) (by unfold Sm; decide) ⟨by decide, fin_of_key (by decide) (by decide)⟩ (by decide) (by decide)
theorem sm_of {z : Int} (h : z.natAbs < 1000000000000000) : Sm z := h
theorem fin_num {x : Nat} (h : fcmp .eql .f32 (farith .sub .f32 x x) 0 = true) : ∃ s m p, single.read x = .number s m p := by
  cases hr : single.read x with
  | number s m p => exact ⟨s, m, p, rfl⟩
  | nan s t =>
    exfalso
    have hn : isnan .f32 x = true := by
      unfold isnan
      rw [show FloatKind.f32.format.read x = single.read x from rfl, hr]; rfl
    rw [farith_eq, fraw_nan_l _ _ _ _ hn] at h
    revert h; decide
  | infinity s =>
    exfalso
    have hs : single.sub x x = none := by
      unfold Format.sub
      rw [hr]
      cases s <;> rfl
    have : farith .sub .f32 x x = qnan .f32 := by
      unfold farith
      show (single.sub x x).getD _ = _
      rw [hs]; rfl
    rw [this] at h
    revert h; decide
theorem read_abs {w : Nat} {s : Bool} {m : Nat} {p : Int} (h : double.read w = .number s m p) : double.read (w % 9223372036854775808) = .number false m p := by
  have hsw : double.signWeight = 9223372036854775808 := by decide
  unfold Format.read at h ⊢
  simp only [hsw, Nat.mod_mod] at h ⊢
  have hd : w % 9223372036854775808 / 9223372036854775808 = 0 := Nat.div_eq_of_lt (Nat.mod_lt _ (by decide))
  rw [hd]
  split at h
  · rename_i h1
    rw [if_pos h1]
    injection h with h0 h2 h3
    subst h2; subst h3; rfl
  · rename_i h1
    rw [if_neg h1]
    split at h
    · rename_i h1'
      rw [if_pos h1']
      injection h with h0 h2 h3
      subst h2; subst h3; rfl
    · split at h <;> cases h
theorem clr64 {b : Nat} (h : b < 18446744073709551616) : ibits .andNot .u64 (b : Int) (9223372036854775808 : Int) = ((b % 9223372036854775808 : Nat) : Int) := by
  have hb : (BitVec.ofInt 64 (b : Int)).toNat = b := by
    rw [BitVec.ofInt_natCast, BitVec.toNat_ofNat]; exact Nat.mod_eq_of_lt h
  unfold ibits
  have e : (BitVec.ofInt 64 (b : Int) &&& ~~~ BitVec.ofInt 64 (9223372036854775808 : Int)).toNat = b % 9223372036854775808 := by
    rw [BitVec.toNat_and, hb, show (~~~ BitVec.ofInt 64 (9223372036854775808 : Int)).toNat = 2 ^ 63 - 1 by decide, Nat.and_two_pow_sub_one_eq_mod]
  show IntKind.wrap .u64 ((BitVec.ofInt 64 (b : Int) &&& ~~~ BitVec.ofInt 64 (9223372036854775808 : Int)).toNat : Int) = _
  rw [e]
  exact u64_id (by omega) (by omega)
theorem abs64 (n : Nat) {x : Nat} (h : W double x) : ∃ a, m_math_Abs n x = some a ∧ W FloatKind.f64.format a ∧ vz FloatKind.f64.format a = ((vz double x).natAbs : Int) := by
  have hlt : x < 18446744073709551616 := h.lt
  have hn : isnan .f64 x = false := W.not_nan (k := .f64) h
  obtain ⟨s, m, p, e⟩ := h.fin
  have ea := read_abs e
  have hw : W FloatKind.f64.format (x % 9223372036854775808) := ⟨Nat.lt_of_le_of_lt (Nat.mod_le _ _) h.lt, _, _, _, ea⟩
  refine ⟨x % 9223372036854775808, ?_, hw, ?_⟩
  · unfold m_math_Abs
    rw [grd_pos hn, clr64 hlt, Int.toNat_natCast, grd_pos (by omega), canon_of_not (W.not_nan (k := .f64) hw)]
  · have e1 : vz FloatKind.f64.format (x % 9223372036854775808) = signed false m (p - double.leastPlace).toNat := by
      unfold vz
      rw [show FloatKind.f64.format.read (x % 9223372036854775808) = .number false m p from ea]
      rfl
    have e2 : vz double x = signed s m (p - double.leastPlace).toNat := by
      unfold vz
      rw [e]
    obtain ⟨a1, a2, _⟩ := signed_sign false m (p - double.leastPlace).toNat
    obtain ⟨b1, _, _⟩ := signed_sign s m (p - double.leastPlace).toNat
    have := a2 rfl
    rw [e1, e2]
    omega
theorem wide_num {x : Nat} {s : Bool} {m : Nat} {p : Int} (h : single.read x = .number s m p) : ∃ r, fconv .f32 .f64 x = some r ∧ W double r ∧ (vz double r = 0 → m = 0) := by
  obtain ⟨r, e1, _, e3⟩ := wide_some x
  have hw := e3 s m p h
  subst hw
  have hxd := ex_wide (ex_read sgl_ok h)
  obtain ⟨a, P, hrd, hP⟩ := read_ex (fmtOk .f64) s hxd
  have hrd : double.read (double.nearest s m p) = .number s (m * 2 ^ a) P := hrd
  refine ⟨_, e1, ⟨nearest_lt2 _ _ _ _, _, _, _, hrd⟩, fun hz => ?_⟩
  have e2 : vz double (double.nearest s m p) = signed s (m * 2 ^ a) (P - double.leastPlace).toNat := by
    unfold vz
    rw [hrd]
  obtain ⟨b1, _, _⟩ := signed_sign s (m * 2 ^ a) (P - double.leastPlace).toNat
  rw [← e2, hz] at b1
  rcases Nat.mul_eq_zero.1 b1.symm with h1 | h1
  · rcases Nat.mul_eq_zero.1 h1 with h2 | h2
    · exact h2
    · have := Nat.two_pow_pos a; omega
  · have := Nat.two_pow_pos (P - double.leastPlace).toNat; omega
theorem eql_zero {x : Nat} {s : Bool} {p : Int} (h : single.read x = .number s 0 p) : fcmp .eql .f32 x 0 = true := by
  unfold fcmp Format.order
  rw [show FloatKind.f32.format.read x = single.read x from rfl, h, show FloatKind.f32.format.read 0 = .number false 0 (-149) by decide]
  simp only [Datum.order]
  rw [signed_zero, signed_zero]
  rfl
theorem ang_j7 (n : Nat) {v : Nat} (h : Rng v (-66) 66) : ∃ r, m_impl_AngleTurns_j7 n v = some r := by
  obtain ⟨r, e⟩ := h.narrow (sm_of (by decide))
  unfold m_impl_AngleTurns_j7
  rw [e]; exact ⟨_, rfl⟩
theorem ang_j6 (n y : Nat) {v : Nat} (h : Rng v (-66) 66) : ∃ r, m_impl_AngleTurns_j6 n y v = some r := by
  unfold m_impl_AngleTurns_j6
  split
  · exact ang_j7 n (by have := h.neg; rwa [Int.neg_neg] at this)
  · exact ang_j7 n h
theorem ang_j5 (n y x : Nat) {v : Nat} (h : Rng v (-65) 65) : ∃ r, m_impl_AngleTurns_j5 n y x v = some r := by
  unfold m_impl_AngleTurns_j5
  split
  · exact ang_j6 n y ((rng_half.sub h (sm_of (by decide)) (sm_of (by decide))).mono (by decide) (by decide))
  · exact ang_j6 n y (h.mono (by decide) (by decide))
theorem ang_j4 (n y x a b : Nat) {q s : Nat} (hq : Rng q 0 1) (hs : Rng s (-8) 8) : ∃ r, m_impl_AngleTurns_j4 n y x a b q s = some r := by
  have h1 := (hq.mono (c := -1) (by decide) (Int.le_refl _)).mul hs (by decide) (by decide) (sm_of (by decide))
  have h2 := (rng_eight.mono (c := -8) (d := 8) (by decide) (by decide)).mul (h1.mono (c := -8) (d := 8) (by decide) (by decide)) (by decide) (by decide) (sm_of (by decide))
  have h3 := (h2.mono (c := -64) (d := 64) (by decide) (by decide)).quo rng_turn (by decide) (sm_of (by decide))
  unfold m_impl_AngleTurns_j4
  split
  · exact ang_j5 n y x ((rng_quarter.sub h3 (sm_of (by decide)) (sm_of (by decide))).mono (by decide) (by decide))
  · exact ang_j5 n y x (h3.mono (by decide) (by decide))
theorem ang_l8 (n y x a b : Nat) {q : Nat} (hq : Rng q 0 1) : ∀ (m t : Nat) (s : Nat), t < m → t ≤ 8 → Rng s (-(8 - (t : Int))) (8 - (t : Int)) → ∃ r, m_impl_AngleTurns_l8 n y x a b q m s (2 * (t : Int) - 1) = some r
  | 0, t, s, h, _, _ => by omega
  | m + 1, t, s, hm, ht, hs => by
    unfold m_impl_AngleTurns_l8
    by_cases h0 : t = 0
    · subst h0
      rw [if_neg (by omega)]
      exact ang_j4 n y x a b hq (hs.mono (by decide) (by decide))
    · obtain ⟨t, rfl⟩ : ∃ j, t = j + 1 := ⟨t - 1, by omega⟩
      rw [if_pos (by omega), w64_id (by omega) (by omega)]
      have hk := int_rng (int_near (k := .f64) (z := 2 * ((t + 1 : Nat) : Int) - 1) (ex_wide' (by omega)))
      have u := u64_pos
      have hone := rng_one
      have kq : (U64 : Int) ≤ vz FloatKind.f64.format (FloatKind.nearest .f64 (2 * ((t + 1 : Nat) : Int) - 1)) := by
        have := (hk.mono (c := 1) (by omega) (Int.le_refl _)).lo
        rw [Int.one_mul] at this; exact this
      have o1 := hone.lo
      have o2 := hone.hi
      rw [Int.one_mul] at o1 o2
      have h1 := quo_one hone.wk hk.wk (by omega) (by omega) (by omega)
      have h2 := (hq.mul0 hq (by decide) (by decide) (sm_of (by decide))).mono (c := -1) (d := 1) (by decide) (by decide)
      have h3 := h2.mul hs (by decide) (by omega) (sm_of (by omega))
      have h4 := h1.sub h3 (sm_of (by omega)) (sm_of (by omega))
      have := ang_l8 n y x a b hq m t _ (by omega) (by omega) (h4.mono (c := -(8 - (t : Int))) (d := 8 - (t : Int)) (by omega) (by omega))
      rw [show 2 * ((t + 1 : Nat) : Int) - 1 - 2 = 2 * (t : Int) - 1 by omega]
      exact this
theorem ang_l9 (n y x a b : Nat) (hn : 20 ≤ n) : ∀ (m j : Nat) (q : Nat), 3 - j < m → j ≤ 3 → Rng q 0 1 → ∃ r, m_impl_AngleTurns_l9 n y x a b m q (j : Int) = some r
  | 0, j, q, h, _, _ => by omega
  | m + 1, j, q, hm, hj, hq => by
    unfold m_impl_AngleTurns_l9
    by_cases h0 : j = 3
    · subst h0
      rw [if_neg (by omega)]
      unfold m_impl_AngleTurns_j3
      have z0 : Rng 0 (-(8 - ((8 : Nat) : Int))) (8 - ((8 : Nat) : Int)) := by
        have := rng_int 0 (sm_of (by decide))
        rw [show ofZ FloatKind.f64.format 0 0 = 0 by decide] at this
        exact this
      exact ang_l8 n y x a b hq n 8 0 (by omega) (by omega) z0
    · rw [if_pos (by omega)]
      unfold m_math_Sqrt
      rw [Option.bind_some, w64_id (by omega) (by omega)]
      have h1 := hq.mul0 hq (by decide) (by decide) (sm_of (by decide))
      have h2 := rng_one.add h1 (sm_of (by decide)) (sm_of (by decide))
      have h3 := (h2.mono (c := 1) (d := 2) (by decide) (by decide)).sqrt (sm_of (by decide))
      have h4 := (rng_one.add h3 (sm_of (by decide)) (sm_of (by decide))).mono (c := 1) (d := 1000000000001) (by decide) (by decide)
      have q0 := hq.lo
      have q1 := hq.hi
      have d1 := h4.lo
      have u := u64_pos
      rw [Int.zero_mul] at q0
      rw [Int.one_mul] at q1 d1
      exact ang_l9 n y x a b hn m (j + 1) _ (by omega) (by omega) (quo_one hq.wk h4.wk q0 (by omega) (by omega))
theorem ang_j1 {n : Nat} (hn : 20 ≤ n) {y x : Nat} {s t : Bool} {m k : Nat} {p q : Int} (hy : single.read y = .number s m p) (hx : single.read x = .number t k q) (h : m ≠ 0 ∨ k ≠ 0) : ∃ r, m_impl_AngleTurns_j1 n y x = some r := by
  obtain ⟨y1, e1, w1, z1⟩ := wide_num hy
  obtain ⟨x1, e2, w2, z2⟩ := wide_num hx
  obtain ⟨a, e3, w3, v3⟩ := abs64 n w1
  obtain ⟨b, e4, w4, v4⟩ := abs64 n w2
  unfold m_impl_AngleTurns_j1
  rw [e1, Option.bind_some, e3, Option.bind_some, e2, Option.bind_some, e4, Option.bind_some]
  rw [gtr_w (k := .f64) w3 w4]
  by_cases hg : key FloatKind.f64.format b < key FloatKind.f64.format a
  · rw [if_pos (decide_eq_true hg)]
    have hv := (w4.vz_lt (fmtK .f64) w3).1 hg
    unfold m_impl_AngleTurns_j2
    exact ang_l9 n y x a b hn n 0 _ (by omega) (by omega) (quo_one w4 w3 (by omega) (by omega) (by omega))
  · rw [if_neg (by rw [decide_eq_true_eq]; exact hg)]
    have hv := (w3.vz_le (fmtK .f64) w4).1 (by omega)
    have hpos : 0 < vz FloatKind.f64.format b := by
      rcases h with h | h
      · have : vz double y1 ≠ 0 := fun hz => h (z1 hz)
        omega
      · have : vz double x1 ≠ 0 := fun hz => h (z2 hz)
        omega
    unfold m_impl_AngleTurns_j2
    exact ang_l9 n y x a b hn n 0 _ (by omega) (by omega) (quo_one w3 w4 (by omega) (by omega) hpos)
theorem angle_some {n : Nat} (hn : 20 ≤ n) (y x : Nat) : ∃ r, m_impl_AngleTurns n y x = some r := by
  have hf := fin_ok n (Cx.mk y x) (by omega)
  unfold m_impl_IsFiniteComplex at hf
  rw [Option.bind_eq_some_iff] at hf
  obtain ⟨v, hv, hv'⟩ := hf
  cases hv'
  unfold m_impl_AngleTurns
  dsimp only at hv
  rw [hv, Option.bind_some]
  split
  · rename_i hfin
    rw [Bool.and_eq_true] at hfin
    obtain ⟨s, m, p, hy⟩ := fin_num hfin.1
    obtain ⟨t, k, q, hx⟩ := fin_num hfin.2
    have go : (m ≠ 0 ∨ k ≠ 0) → ∃ r, m_impl_AngleTurns_j10 n y x false = some r := fun h => by
      unfold m_impl_AngleTurns_j10
      rw [if_neg (by decide)]
      exact ang_j1 hn hy hx h
    split
    · rename_i hx0
      cases hy0 : fcmp .eql .f32 y 0 with
      | true => exact ⟨0, rfl⟩
      | false =>
        refine go (.inl fun hm => ?_)
        subst hm
        rw [eql_zero hy] at hy0
        cases hy0
    · rename_i hx0
      refine go (.inr fun hk => hx0 ?_)
      subst hk
      exact eql_zero hx
  · have e1 : m_math_NaN n = some (canon .f64 9221120237041090561) := by
      unfold m_math_NaN
      rw [grd_pos (by decide)]; rfl
    have e2 : fconv .f64 .f32 (canon .f64 9221120237041090561) = some (qnan .f32) := by decide
    rw [e1, Option.bind_some, e2]
    exact ⟨_, rfl⟩
end Go.Proofs.YtdgkahieegcmeaaDoor.AWN

namespace Go.Proofs.YtdgkahieegcmeaaDoor.AWN
open Go Ieee

theorem and_pow31 (b : Nat) : b &&& 2 ^ 31 = (b.testBit 31).toNat * 2147483648 := by
  apply Nat.eq_of_testBit_eq
  intro i
  rw [Nat.testBit_and, Nat.testBit_two_pow]
  cases h : b.testBit 31 with
  | true =>
    show _ = (1 * 2 ^ 31).testBit i
    rw [Nat.one_mul, Nat.testBit_two_pow]
    by_cases hi : 31 = i
    · subst hi; rw [h]; rfl
    · rw [decide_eq_false hi, Bool.and_false]
  | false =>
    show _ = (0 * 2147483648).testBit i
    rw [Nat.zero_mul, Nat.zero_testBit]
    by_cases hi : 31 = i
    · subst hi; rw [h]; rfl
    · rw [decide_eq_false hi, Bool.and_false]
theorem and_sign {b : Nat} (h : b < 4294967296) : ibits .and .u32 (b : Int) (2147483648 : Int) = 0 ∨ ibits .and .u32 (b : Int) (2147483648 : Int) = 2147483648 := by
  have hb : (BitVec.ofInt 32 (b : Int)).toNat = b := by
    rw [BitVec.ofInt_natCast, BitVec.toNat_ofNat]; exact Nat.mod_eq_of_lt h
  have e : (BitVec.ofInt 32 (b : Int) &&& BitVec.ofInt 32 (2147483648 : Int)).toNat = (b.testBit 31).toNat * 2147483648 := by
    rw [BitVec.toNat_and, hb, show (BitVec.ofInt 32 (2147483648 : Int)).toNat = 2 ^ 31 by decide, and_pow31]
  unfold ibits
  show IntKind.wrap .u32 ((BitVec.ofInt 32 (b : Int) &&& BitVec.ofInt 32 (2147483648 : Int)).toNat : Int) = 0 ∨ IntKind.wrap .u32 ((BitVec.ofInt 32 (b : Int) &&& BitVec.ofInt 32 (2147483648 : Int)).toNat : Int) = 2147483648
  rw [e]
  cases b.testBit 31
  · left; decide
  · right; decide
theorem flush_ok (n : Nat) {x : Nat} (h : Wd x) : ∃ y b c, m_impl_FlushNumber n x = some y ∧ m_impl_IsSubnormal n y = some false ∧ m_impl_IsSubnormal n x = some b ∧ m_spec_SameNumber n x y = some c ∧ (b == c) = false := by
  have quiet : m_impl_IsSubnormal n x = some false → ∃ y b c, m_impl_FlushNumber n x = some y ∧ m_impl_IsSubnormal n y = some false ∧ m_impl_IsSubnormal n x = some b ∧ m_spec_SameNumber n x y = some c ∧ (b == c) = false := fun hq => by
    refine ⟨x, false, true, ?_, hq, hq, same_ok n x, rfl⟩
    unfold m_impl_FlushNumber
    rw [hq]; rfl
  cases hz : fcmp .neq .f32 x 0 with
  | false =>
    refine quiet ?_
    unfold m_impl_IsSubnormal
    rw [hz]; rfl
  | true =>
    have hs : m_impl_IsSubnormal n x = some (fcmp .lss .f32 (absM x) 8388608) := by
      unfold m_impl_IsSubnormal m_impl_abs
      rw [hz]; rfl
    cases hl : fcmp .lss .f32 (absM x) 8388608 with
    | false => exact quiet (by rw [hs, hl])
    | true =>
      have hn : isnan .f32 x = false := by
        cases hn : isnan .f32 x with
        | false => rfl
        | true =>
          exfalso
          unfold absM at hl
          rw [hn, if_pos rfl] at hl
          revert hl; decide
      rw [hl] at hs
      have hlow := h.low
      have key : ∀ y : Nat, (y = 0 ∨ y = 2147483648) → m_impl_FlushNumber n x = some y → ∃ y b c, m_impl_FlushNumber n x = some y ∧ m_impl_IsSubnormal n y = some false ∧ m_impl_IsSubnormal n x = some b ∧ m_spec_SameNumber n x y = some c ∧ (b == c) = false := by
        intro y hy hf
        have hyz : fcmp .neq .f32 y 0 = false := by rcases hy with rfl | rfl <;> decide
        have hyn : isnan .f32 y = false := by rcases hy with rfl | rfl <;> decide
        have hne : x ≠ y := fun e => by rw [e, hyz] at hz; cases hz
        refine ⟨y, true, false, hf, ?_, hs, ?_, rfl⟩
        · unfold m_impl_IsSubnormal
          rw [hyz]; rfl
        · have b : ∀ z : Nat, isnan .f32 z = false → z < 4294967296 → m_spec_l01Bits n z = some (z : Int) := fun z h1 h2 => by
            unfold m_spec_l01Bits
            rw [neq_selfq, h1, if_neg (by decide), grd_pos rfl, w64_id (by omega) (by omega)]
          unfold m_spec_SameNumber m_spec_l01Same
          rw [b x hn hlow, Option.bind_some, b y hyn (by rcases hy with rfl | rfl <;> decide), Option.bind_some, Option.bind_some]
          rw [decide_eq_false (by omega)]
      rcases and_sign hlow with e | e
      · refine key 0 (.inl rfl) ?_
        unfold m_impl_FlushNumber
        rw [hs, Option.bind_some, if_pos rfl, grd_pos hn, e, grd_pos (by decide)]
        rfl
      · refine key 2147483648 (.inr rfl) ?_
        unfold m_impl_FlushNumber
        rw [hs, Option.bind_some, if_pos rfl, grd_pos hn, e, grd_pos (by decide)]
        rfl
def addF (l : List Nat) (v : Nat) : Nat := l.foldl (farith .add .f32) v
theorem add_drop {l : List Nat} {i : Nat} (h : i < l.length) (v : Nat) : ∃ x, getI l (i : Int) = some x ∧ addF (l.drop i) v = addF (l.drop (i + 1)) (farith .add .f32 v x) := by
  refine ⟨l[i], ?_, ?_⟩
  · unfold getI
    rw [if_pos (by omega), Int.toNat_natCast, List.getElem?_eq_getElem h]
  · unfold addF
    rw [List.drop_eq_getElem_cons h]; rfl
theorem sum_l1 (n : Nat) {l : List Nat} (hl : l.length ≤ 1000) : ∀ (m i v : Nat), i ≤ l.length → l.length - i < m → m_impl_sum_l1 n l m v (i : Int) = some (addF (l.drop i) v)
  | 0, i, v, _, h => by omega
  | m + 1, i, v, hi, h => by
    unfold m_impl_sum_l1
    by_cases hk : i = l.length
    · subst hk
      rw [if_neg (by omega), List.drop_length]; rfl
    · obtain ⟨x, e1, e2⟩ := add_drop (l := l) (i := i) (by omega) v
      rw [if_pos (by omega), e1, Option.bind_some, w64_id (by omega) (by omega), e2]
      exact sum_l1 n hl m (i + 1) _ (by omega) (by omega)
theorem sum_ok {n : Nat} (hn : 60 ≤ n) {l : List Nat} (hl : l.length ≤ 50) : m_impl_SumNumbers n l = some (addF l 0, true) := by
  unfold m_impl_SumNumbers m_impl_listOk m_impl_sum
  rw [Option.bind_some, if_pos (by rw [decide_eq_true_eq]; omega)]
  rw [show (0 : Int) = ((0 : Nat) : Int) from rfl, sum_l1 n (by omega) n 0 0 (by omega) (by omega)]
  rfl
theorem sine_one : m_impl_SineTurns 400 1048576000 = some 1065353216 := by kernel_rfl
theorem law_j3 {x y : Nat} (hx : Wd x) : m_laws_FnNumbers_j3 400 x y = some true := by
  obtain ⟨r, e⟩ := angle_some (n := 400) (by decide) y x
  obtain ⟨w, w1, w2⟩ := narrow_wide hx
  unfold m_laws_FnNumbers_j3 m_impl_AngleOf m_impl_NarrowNumber
  dsimp only
  rw [e, Option.bind_some, Option.bind_some, Option.bind_some, same_ok, Option.bind_some, if_pos rfl, w1, Option.bind_some, w2, Option.bind_some, Option.bind_some, same_ok, Option.bind_some, if_pos rfl, sine_one, Option.bind_some]
  decide
theorem law_l4 {x y : Nat} (hx : Wd x) {l : List Nat} (hl : l.length ≤ 50) : ∀ (m i : Nat), i ≤ l.length → l.length - i < m → m_laws_FnNumbers_l4 400 x y l (l, true) m (i : Int) = some true
  | 0, i, _, h => by omega
  | m + 1, i, hi, h => by
    unfold m_laws_FnNumbers_l4
    by_cases hk : i = l.length
    · rw [if_neg (by omega)]
      exact law_j3 hx
    · obtain ⟨z, e1, _, _⟩ := take_get (l := l) (i := i) (by omega)
      rw [if_pos (by omega)]
      dsimp only
      rw [e1, Option.bind_some, Option.bind_some, same_ok, Option.bind_some, if_pos rfl, w64_id (by omega) (by omega)]
      exact law_l4 hx hl m (i + 1) (by omega) (by omega)
theorem law_j1 {x y f : Nat} (hx : Wd x) {l : List Nat} (hl : l.length ≤ 50) (hw : ∀ z ∈ l, Wd z) {b c : Bool} (f2 : m_impl_IsSubnormal 400 f = some false) (f3 : m_impl_IsSubnormal 400 x = some b) (f4 : m_spec_SameNumber 400 x f = some c) (f5 : (b == c) = false) : m_laws_FnNumbers_j1 400 x y (x, true) f l (addF l 0) = some true := by
  obtain ⟨s, e1, e2⟩ := numbers_text (n := 400) (by decide) (l := l) (by omega) hw
  unfold m_laws_FnNumbers_j1
  rw [sum_ok (by decide) hl, Option.bind_some, e1, Option.bind_some]
  dsimp only
  rw [e2, Option.bind_some]
  dsimp only
  rw [if_pos rfl, if_pos rfl, if_pos rfl, if_pos rfl, same_ok, Option.bind_some, if_pos rfl, f2, Option.bind_some, if_neg (by decide), f3, Option.bind_some, f4, Option.bind_some, f5, if_neg (by decide), same_ok, Option.bind_some, if_pos rfl]
  unfold m_laws_FnNumbers_j5
  rw [if_neg (by simp)]
  unfold m_laws_FnNumbers_j2
  exact law_l4 hx hl 400 0 (by omega) (by omega)
theorem law_l6 {x y f : Nat} (hx : Wd x) {l : List Nat} (hl : l.length ≤ 50) (hj : m_laws_FnNumbers_j1 400 x y (x, true) f l (addF l 0) = some true) : ∀ (m i v : Nat), i ≤ l.length → l.length - i < m → addF (l.drop i) v = addF l 0 → m_laws_FnNumbers_l6 400 x y (x, true) f l m v (i : Int) = some true
  | 0, i, v, _, h, _ => by omega
  | m + 1, i, v, hi, h, hv => by
    unfold m_laws_FnNumbers_l6
    by_cases hk : i = l.length
    · subst hk
      rw [if_neg (by omega)]
      rw [List.drop_length] at hv
      have hv : v = addF l 0 := hv
      rw [hv]; exact hj
    · obtain ⟨z, e1, e2⟩ := add_drop (l := l) (i := i) (by omega) v
      rw [if_pos (by omega), e1, Option.bind_some, w64_id (by omega) (by omega)]
      exact law_l6 hx hl hj m (i + 1) _ (by omega) (by omega) (by rw [← e2]; exact hv)
theorem Numbers_true {c1 c2 : List Int} (h1 : ∀ x ∈ c1, 0 ≤ x ∧ x < 256) (h2 : ∀ x ∈ c2, 0 ≤ x ∧ x < 256) : m_laws_FnNumbers 400 c1 c2 = some true := by
  unfold m_laws_FnNumbers
  have hl : ∃ v, m_laws_b10Long 400 c1 c2 = some v := by
    unfold m_laws_b10Long
    split <;> exact ⟨_, rfl⟩
  obtain ⟨v, e0⟩ := hl
  rw [e0, Option.bind_some]
  split
  · rfl
  obtain ⟨x, e1, hx⟩ := number_some' 400 h1
  obtain ⟨y, e2, hy⟩ := number_some' 400 h2
  obtain ⟨f, b, c, f1, f2, f3, f4, f5⟩ := flush_ok 400 hx
  obtain ⟨k, e3, k0, k1⟩ := b10At_q 400 h1 (i := 0) (k := 12) (by decide) (by decide) (by decide) (by decide)
  obtain ⟨l, e4, hll, hw⟩ := numbers_some (n := 400) (by decide) h2 (k := k) k0 (by omega)
  rw [e1, Option.bind_some, e2, Option.bind_some, bits_ok 400 hx, Option.bind_some, from_ok 400 hx, Option.bind_some, f1, Option.bind_some, e3, Option.bind_some, e4, Option.bind_some]
  exact law_l6 hx hll (law_j1 hx hll hw f2 f3 f4 f5) 400 0 0 (by omega) (by omega) (by rw [List.drop_zero])
end Go.Proofs.YtdgkahieegcmeaaDoor.AWN
