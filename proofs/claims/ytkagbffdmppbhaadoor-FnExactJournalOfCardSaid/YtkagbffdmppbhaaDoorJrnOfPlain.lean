/- Lines, checks, decimals: in plain terms. -/
import Derived.Test.YtkagbffdmppbhaaDoorJrnOf
set_option linter.unusedVariables false
set_option linter.unusedSimpArgs false
set_option linter.unusedSectionVars false
namespace Go.Proofs.YtkagbffdmppbhaaDoor.AWN
open Go

theorem w64_id {n : Int} (h0 : -9223372036854775808 ≤ n) (h1 : n < 9223372036854775808) : w64 n = n := by
  show IntKind.wrap .i64 n = n
  simp only [IntKind.wrap, IntKind.signed, IntKind.bits]
  simp
  omega
theorem getI_nat' {α : Type} {l : List α} {i : Nat} (h : i < l.length) : getI l (i : Int) = some l[i] := by
  unfold getI
  rw [if_pos (by omega), Int.toNat_natCast, List.getElem?_eq_getElem h]
theorem sub_to_end (s : Str) (a : Nat) : sub s (a : Int) (s.length : Int) = s.drop a := by
  unfold sub
  rw [Int.toNat_natCast, Int.toNat_natCast, List.take_of_length_le (by simp)]
theorem sub_take (s : Str) (b : Nat) : sub s 0 (b : Int) = s.take b := by
  unfold sub; simp
theorem sub_len (s : Str) {a b : Nat} (h : b ≤ s.length) : (sub s (a : Int) (b : Int)).length = b - a := by
  unfold sub; simp; omega

/-! ### Checks -/
def chk (c : Int) (s : Str) : Int := s.foldl (fun v x => (691 * v + (x.toNat : Int) + 43) % 65003) c
def CkOk (c : Int) : Prop := 0 ≤ c ∧ c < 65003
theorem ck_step {c : Int} (h : CkOk c) (x : UInt8) : CkOk ((691 * c + (x.toNat : Int) + 43) % 65003) ∧ (w64 (w64 (w64 (691 * c) + w64 (x.toNat : Int)) + 43)).tmod 65003 = (691 * c + (x.toNat : Int) + 43) % 65003 := by
  obtain ⟨h0, h1⟩ := h
  have hx : x.toNat < 256 := UInt8.toNat_lt x
  have e1 : w64 (691 * c) = 691 * c := w64_id (by omega) (by omega)
  have e2 : w64 (x.toNat : Int) = (x.toNat : Int) := w64_id (by omega) (by omega)
  rw [e1, e2, w64_id (n := 691 * c + (x.toNat : Int)) (by omega) (by omega), w64_id (by omega) (by omega), Int.tmod_eq_emod_of_nonneg (by omega)]
  exact ⟨⟨Int.emod_nonneg _ (by omega), Int.emod_lt_of_pos _ (by omega)⟩, rfl⟩
theorem chk_ok : ∀ (s : Str) {c : Int}, CkOk c → CkOk (chk c s)
  | [], _, h => h
  | x :: s, _, h => chk_ok s (ck_step h x).1
theorem scheck_l1 (s : Str) (hs : s.length ≤ 6000) : ∀ (m k : Nat) (c : Int), k ≤ s.length → s.length - k < m → CkOk c → m_spec_l01Check_l1 2000000 s m c (k : Int) = some (chk c (s.drop k))
  | 0, k, _, _, h, _ => by omega
  | m + 1, k, c, hk, hm, hc => by
    unfold m_spec_l01Check_l1
    split
    · rename_i hlt
      have hlt' : k < s.length := by omega
      rw [getI_nat' hlt', Option.bind_some, (ck_step hc _).2, show w64 ((k : Int) + 1) = ((k + 1 : Nat) : Int) by rw [w64_id (by omega) (by omega)]; omega, scheck_l1 s hs m (k + 1) _ (by omega) (by omega) (ck_step hc _).1, List.drop_eq_getElem_cons hlt']
      rfl
    · rw [List.drop_eq_nil_of_le (by omega)]; rfl
theorem scheck_some (s : Str) (hs : s.length ≤ 6000) {c : Int} (hc : CkOk c) : m_spec_l01Check 2000000 c s = some (chk c s) := scheck_l1 s hs 2000000 0 c (Nat.zero_le _) (by omega) hc
theorem icheck_l1 (s : Str) (hs : s.length ≤ 6000) : ∀ (m k : Nat) (c : Int), k ≤ s.length → s.length - k < m → CkOk c → m_impl_CheckOf_l1 2000000 s m c (k : Int) = some (chk c (s.drop k), true)
  | 0, k, _, _, h, _ => by omega
  | m + 1, k, c, hk, hm, hc => by
    unfold m_impl_CheckOf_l1
    split
    · rename_i hlt
      have hlt' : k < s.length := by omega
      rw [getI_nat' hlt', Option.bind_some, (ck_step hc _).2, show w64 ((k : Int) + 1) = ((k + 1 : Nat) : Int) by rw [w64_id (by omega) (by omega)]; omega, icheck_l1 s hs m (k + 1) _ (by omega) (by omega) (ck_step hc _).1, List.drop_eq_getElem_cons hlt']
      rfl
    · rw [List.drop_eq_nil_of_le (by omega)]; rfl
theorem icheck_some (s : Str) (hs : s.length ≤ 6000) {c : Int} (hc : CkOk c) : m_impl_CheckOf 2000000 c s = some (chk c s, true) := by
  unfold m_impl_CheckOf m_impl_in
  rw [if_pos hc.1, Option.bind_some, if_pos (decide_eq_true (by have := hc.2; omega))]
  exact icheck_l1 s hs 2000000 0 c (Nat.zero_le _) (by omega) hc

/-! ### Decimals -/
theorem digit_val {r : Nat} : IntKind.wrap .u8 (w64 (48 + (r % 10 : Nat))) = ((48 + r % 10 : Nat) : Int) := by
  have h := Nat.mod_lt r (show 0 < 10 by omega)
  rw [w64_id (by omega) (by omega)]
  simp only [IntKind.wrap, IntKind.signed, IntKind.bits]
  simp
  omega
theorem tmod10 (r : Nat) : ((r : Int)).tmod 10 = ((r % 10 : Nat) : Int) := by
  rw [Int.tmod_eq_emod_of_nonneg (by omega)]; omega
theorem tdiv10 (r : Nat) (h : r < 2 ^ 62) : w64 (((r : Int)).tdiv 10) = ((r / 10 : Nat) : Int) := by
  rw [Int.tdiv_eq_ediv_of_nonneg (by omega), show (r : Int) / 10 = ((r / 10 : Nat) : Int) by omega]
  have : r / 10 ≤ r := Nat.div_le_self _ _
  have e : (2 : Nat) ^ 62 = 4611686018427387904 := by decide
  exact w64_id (by omega) (by omega)
theorem chars_cons (x : Int) (l : List Int) : chars (x :: l) = UInt8.ofNat x.toNat :: chars l := rfl
theorem digits_step (r : Nat) (h : ¬ r < 10) : Lib.decDigits r = Lib.decDigits (r / 10) ++ [UInt8.ofNat (48 + r % 10)] := by rw [Lib.decDigits, dif_neg h]
theorem digits_small (r : Nat) (h : r < 10) : Lib.decDigits r = [UInt8.ofNat (48 + r % 10)] := by rw [Lib.decDigits, dif_pos h, Nat.mod_eq_of_lt h]
theorem sdec_l3 (n : Nat) : ∀ (m r : Nat) (acc : List Int), r < 10 ^ m → r < 2 ^ 62 → acc.length + m ≤ 3000000 → (r = 0 → acc = []) → 1 ≤ m → m_spec_l01Dec_l3 2000000 (n : Int) (m + 1) acc (r : Int) = some (Lib.decDigits r ++ chars acc)
  | 0, r, acc, _, _, _, _, h => by omega
  | m + 1, r, acc, hr, h62, hl, h0, _ => by
    have go : m_spec_l01Dec_j4 2000000 (m_spec_l01Dec_l3 2000000 (n : Int) (m + 1)) acc (r : Int) = some (Lib.decDigits r ++ chars acc) := by
      unfold m_spec_l01Dec_j4
      rw [tmod10, if_neg (by omega)]
      unfold m_spec_l01Dec_j5 grd
      rw [if_pos (show room ([(IntKind.wrap .u8 ((w64 ((48 : Int) + ((r % 10 : Nat) : Int)))))].length + acc.length) 1 by unfold room; simp; omega), tdiv10 r h62, digit_val]
      by_cases h10 : r < 10
      · have e0 : r / 10 = 0 := Nat.div_eq_of_lt h10
        rw [e0]
        unfold m_spec_l01Dec_l3
        rw [if_neg (by simp; omega)]
        unfold m_spec_l01Dec_j6
        rw [if_neg (by simp)]
        unfold m_spec_l01Dec_j1 m_spec_l01Dec_j2
        rw [if_neg (by omega), digits_small r h10]
        rfl
      · have hlt : r / 10 < 10 ^ m := by
          rw [Nat.div_lt_iff_lt_mul (by omega)]
          rw [Nat.pow_succ] at hr; exact hr
        have hm1 : 1 ≤ m := by
          rcases Nat.eq_zero_or_pos m with rfl | h
          · simp at hr; omega
          · exact h
        have h11 : 1 ≤ r / 10 := by omega
        rw [sdec_l3 n m (r / 10) _ hlt (by have := Nat.div_le_self r 10; omega) (by simp; omega) (fun h => by omega) hm1, digits_step r h10, List.append_assoc]
        rfl
    unfold m_spec_l01Dec_l3
    by_cases ha : acc = []
    · rw [if_pos (by rw [ha]; rfl)]
      unfold m_spec_l01Dec_j6
      rw [if_pos rfl]
      exact go
    · have hr0 : r ≠ 0 := fun h => ha (h0 h)
      rw [if_neg (by
        intro h
        have : acc.length = 0 := by omega
        exact ha (List.eq_nil_of_length_eq_zero this))]
      unfold m_spec_l01Dec_j6
      rw [if_pos (by rw [decide_eq_false (by omega)]; rfl)]
      exact go
theorem sdec_some {c : Int} (h : CkOk c) : m_spec_l01Dec 2000000 c = some (Lib.itoa c) := by
  obtain ⟨n, rfl⟩ : ∃ n : Nat, c = n := ⟨c.toNat, by have := h.1; omega⟩
  have h2 : n < 65003 := by have := h.2; omega
  have e : (2 : Nat) ^ 62 = 4611686018427387904 := by decide
  have h5 : (10 : Nat) ^ 5 = 100000 := by decide
  have hn5 : n < 10 ^ 5 := by omega
  obtain ⟨k, hk⟩ : ∃ k, k = 1999999 := ⟨_, rfl⟩
  have hp : n < 10 ^ k := Nat.lt_of_lt_of_le hn5 (Nat.pow_le_pow_right (by omega) (by omega))
  have := sdec_l3 n k n [] hp (by omega) (by simp; omega) (fun _ => rfl) (by omega)
  rw [hk] at this
  unfold m_spec_l01Dec
  rw [this]
  unfold Lib.itoa
  rw [if_neg (by omega), Int.toNat_natCast]
  simp [chars]
theorem idec_some {c : Int} (h : CkOk c) : m_impl_Decimal 2000000 c = some (Lib.itoa c) := by
  unfold m_impl_Decimal m_strconv_FormatInt dec10
  have := h.1; have := h.2
  rw [if_pos ⟨rfl, by omega, by omega⟩]; rfl
theorem itoa_len {c : Int} (h : CkOk c) : (Lib.itoa c).length ≤ 100 := by
  have len : ∀ (k r : Nat), r < 10 ^ (k + 1) → (Lib.decDigits r).length ≤ k + 1 := by
    intro k
    induction k with
    | zero => intro r hr; rw [digits_small r (by simpa using hr)]; simp
    | succ k ih =>
      intro r hr
      by_cases h10 : r < 10
      · rw [digits_small r h10]; simp
      · rw [digits_step r h10]
        have : r / 10 < 10 ^ (k + 1) := by
          rw [Nat.div_lt_iff_lt_mul (by omega)]
          rw [Nat.pow_succ] at hr; exact hr
        have := ih _ this
        simp; omega
  unfold Lib.itoa
  have h0 := h.1; have h1 := h.2
  rw [if_neg (by omega)]
  have h5 : (10 : Nat) ^ 5 = 100000 := by decide
  have := len 4 c.toNat (by omega)
  omega

/-! ### Places of bytes -/
theorem idxB_nil (c : Int) : idxB [] c = -1 := rfl
theorem find_map_succ (p : Nat → Bool) : ∀ l : List Nat, (l.map Nat.succ).find? p = (l.find? fun i => p (i + 1)).map Nat.succ
  | [] => rfl
  | a :: l => by
    rw [List.map_cons, List.find?_cons, List.find?_cons, find_map_succ p l]
    cases h : p (a + 1) <;> simp [h]
theorem idxB_cons (x : UInt8) (s : Str) (c : Int) : idxB (x :: s) c = if x = c.toNat.toUInt8 then 0 else if idxB s c = -1 then -1 else idxB s c + 1 := by
  unfold idxB
  rw [List.length_cons, List.range_succ_eq_map, List.find?_cons]
  by_cases h : x = c.toNat.toUInt8
  · rw [if_pos h]
    have : ((x :: s).getD 0 0 == c.toNat.toUInt8) = true := by simp [h]
    rw [this]; rfl
  · rw [if_neg h]
    have : ((x :: s).getD 0 0 == c.toNat.toUInt8) = false := by simp [h]
    rw [this, find_map_succ]
    have e : (fun i => (x :: s).getD (i + 1) 0 == c.toNat.toUInt8) = fun i => s.getD i 0 == c.toNat.toUInt8 := by funext i; simp
    simp only [e]
    cases (List.range s.length).find? (fun i => s.getD i 0 == c.toNat.toUInt8) with
    | none => rfl
    | some i => simp
theorem idxB_ge : ∀ (s : Str) (c : Int), -1 ≤ idxB s c ∧ idxB s c < s.length
  | [], c => by rw [idxB_nil]; simp
  | x :: s, c => by
    have ih := idxB_ge s c
    rw [idxB_cons, List.length_cons]
    split
    · omega
    · split
      · omega
      · omega
/-- The place of the first blank, or the length. -/
def spc : Str → Nat
  | [] => 0
  | x :: s => if x = 32 then 0 else spc s + 1
theorem spc_le : ∀ s : Str, spc s ≤ s.length
  | [] => Nat.le_refl _
  | x :: s => by
    have := spc_le s
    unfold spc
    split
    · omega
    · simp; omega
theorem idx_spc : ∀ s : Str, idxB s 32 = if spc s = s.length then -1 else (spc s : Int)
  | [] => rfl
  | x :: s => by
    have ih := idx_spc s
    have hl := spc_le s
    rw [idxB_cons]
    have e : ((32 : Int).toNat.toUInt8) = 32 := by decide
    rw [e]
    by_cases h : x = 32
    · rw [if_pos h]
      have : spc (x :: s) = 0 := by unfold spc; rw [if_pos h]
      rw [this, if_neg (by simp)]; rfl
    · have hs : spc (x :: s) = spc s + 1 := by rw [spc, if_neg h]
      rw [if_neg h, ih, hs]
      by_cases h2 : spc s = s.length
      · rw [if_pos h2, if_pos rfl, if_pos (by simp [h2])]
      · rw [if_neg h2, if_neg (by omega), if_neg (by simp; exact h2)]; omega
theorem spc_split : ∀ s : Str, spc s < s.length → s = s.take (spc s) ++ 32 :: s.drop (spc s + 1)
  | [], h => by simp at h
  | x :: s, h => by
    by_cases hx : x = 32
    · have : spc (x :: s) = 0 := by unfold spc; rw [if_pos hx]
      rw [this, hx]; rfl
    · have hs : spc (x :: s) = spc s + 1 := by rw [spc, if_neg hx]
      rw [hs] at h ⊢
      have := spc_split s (by simpa using h)
      simp only [List.take_succ_cons, List.drop_succ_cons, List.cons_append, ← this]
end Go.Proofs.YtkagbffdmppbhaaDoor.AWN

namespace Go.Proofs.YtkagbffdmppbhaaDoor.AWN
open Go

def nl : Str → Bool
  | [] => false
  | x :: r => if x = 10 then true else nl r
theorem nl_cons (x : UInt8) (r : Str) : nl (x :: r) = if x = 10 then true else nl r := rfl
theorem idx_nl : ∀ s : Str, (0 ≤ idxB s 10) ↔ nl s = true
  | [] => by rw [idxB_nil]; simp [nl]
  | x :: r => by
    have ih := idx_nl r
    have hg := idxB_ge r 10
    rw [idxB_cons, nl_cons, show ((10 : Int).toNat.toUInt8) = 10 from rfl]
    by_cases h : x = 10
    · rw [if_pos h, if_pos h]; simp
    · rw [if_neg h, if_neg h]
      by_cases h1 : idxB r 10 = -1
      · rw [if_pos h1, ← ih]; omega
      · rw [if_neg h1, ← ih]; omega
theorem contains_some (n : Nat) (s : Str) : m_strings_Contains n s [10] = some (nl s) := by
  have hidx : m_stringslite_Index n s [10] = some (idxB s 10) := by
    unfold m_stringslite_Index m_stringslite_Index_j1
    rw [if_neg (by decide)]
    by_cases h : ([10] : Str) = s
    · subst h
      rw [if_pos (by decide)]
      rfl
    · rw [if_neg (by simpa using h), if_pos (by decide)]
      rfl
  unfold m_strings_Contains m_strings_Index
  rw [hidx, Option.bind_some, Option.bind_some]
  congr 1
  have := idx_nl s
  cases hn : nl s with
  | true => exact decide_eq_true (this.2 hn)
  | false => exact decide_eq_false fun h => by rw [this.1 h] at hn; cases hn

/-! ### What the journal is -/
def row (c : Int) (l : Str) : Str := Lib.itoa (chk c l) ++ [32] ++ l ++ [10]
def jr : List Str → Int → Str → Str
  | [], _, out => out
  | l :: r, c, out => jr r (chk c l) (out ++ row c l)
def jok : List Str → Int → Bool
  | [], _ => true
  | l :: r, t => if t + l.length + 3 > 6000 then false else if nl l = true then false else jok r (t + l.length + 3)
theorem jr_cons (l : Str) (r : List Str) (c : Int) (out : Str) : jr (l :: r) c out = jr r (chk c l) (out ++ row c l) := rfl
theorem jok_cons (l : Str) (r : List Str) (t : Int) : jok (l :: r) t = if t + l.length + 3 > 6000 then false else if nl l = true then false else jok r (t + l.length + 3) := rfl
theorem jr_len : ∀ (ls : List Str) (c : Int) (out : Str), out.length ≤ (jr ls c out).length
  | [], _, _ => Nat.le_refl _
  | l :: r, c, out => by
    rw [jr_cons]
    have := jr_len r (chk c l) (out ++ row c l)
    rw [List.length_append] at this
    omega
theorem itoa_pos (c : Int) : 1 ≤ (Lib.itoa c).length := by
  have h : ∀ n, 1 ≤ (Lib.decDigits n).length := by
    intro n
    by_cases h : n < 10
    · rw [digits_small n h]; simp
    · rw [digits_step n h]; simp
  unfold Lib.itoa
  split
  · simp
  · exact h _
theorem row_len (c : Int) (l : Str) : (row c l).length = (Lib.itoa (chk c l)).length + l.length + 2 := by
  unfold row
  simp only [List.length_append, List.length_cons, List.length_nil]
  omega
def resJ (ls : List Str) (c : Int) (out : Str) (t : Int) : Str × Bool := if jok ls t = true ∧ (jr ls c out).length ≤ 6000 then (jr ls c out, true) else ([], false)

/-! ### The program's way -/
theorem prog_some : ∀ (ls : List Str) (c : Int) (out : Str) (t : Int), CkOk c → 0 ≤ t → t ≤ out.length →
    jrnM (fun s => m_strings_Contains 2000000 s [10]) (m_impl_CheckOf 2000000) (m_impl_Decimal 2000000) ls c out = some (resJ ls c out t)
  | [], c, out, t, hc, h0, ht => by
    unfold jrnM resJ
    by_cases h : 6000 < out.length
    · rw [if_pos h, if_neg (by intro hh; have : out.length ≤ 6000 := hh.2; omega)]
    · rw [if_neg h, if_pos ⟨rfl, by show out.length ≤ 6000; omega⟩]; rfl
  | l :: r, c, out, t, hc, h0, ht => by
    have hj := jr_len r (chk c l) (out ++ row c l)
    have hr := row_len c l
    have hp := itoa_pos (chk c l)
    rw [List.length_append] at hj
    unfold jrnM
    by_cases h1 : 6000 < l.length
    · rw [if_pos h1]
      unfold resJ
      rw [jok_cons, if_pos (show t + l.length + 3 > 6000 by omega), if_neg (by intro hh; cases hh.1)]
    · rw [if_neg h1, contains_some, Option.bind_some]
      by_cases h2 : nl l = true
      · rw [if_pos h2]
        unfold resJ
        rw [jok_cons, if_pos h2, if_neg (by intro hh; have := hh.1; split at this <;> cases this)]
      · rw [if_neg h2]
        by_cases h3 : 6000 < out.length
        · rw [if_pos h3]
          unfold resJ
          rw [jr_cons, if_neg (by intro hh; have := hh.2; omega)]
        · have hck := chk_ok l hc
          have hil := itoa_len hck
          rw [if_neg h3, icheck_some l (by omega) hc, Option.bind_some, idec_some hck, Option.bind_some]
          unfold grd
          rw [if_pos (by omega)]
          have ih := prog_some r (chk c l) (out ++ row c l) (t + l.length + 3) hck (by omega) (by rw [List.length_append]; omega)
          have e : out ++ (Lib.itoa (chk c l) ++ [32] ++ l ++ [10]) = out ++ row c l := rfl
          dsimp only at ih ⊢
          rw [e, ih]
          unfold resJ
          rw [jok_cons, jr_cons, if_neg h2]
          by_cases h4 : t + l.length + 3 > 6000
          · rw [if_pos h4, if_neg (by intro hh; have := hh.2; omega), if_neg (by intro hh; cases hh.1)]
          · rw [if_neg h4]

/-! ### The reference's way -/
section
variable {lines : List Str} (hL : lines.length ≤ 1048576) (hE : ∀ l ∈ lines, l.length ≤ 1048576)
include hL hE
theorem spec_l4 (K : Int → Int → Option (Str × Bool)) (t : Int) {i : Nat} (hi : i < lines.length) (x : Str) : ∀ (m j : Nat), j ≤ lines[i].length → lines[i].length - j < m →
    m_spec_JournalOf_l4 2000000 lines K t (i : Int) x m (j : Int) = if nl (lines[i].drop j) = true then some ([], false) else m_spec_JournalOf_j3 2000000 K (i : Int) (w64 (t + w64 ((x.length : Int) + 3)))
  | 0, j, _, h => by omega
  | m + 1, j, hj, hm => by
    have hl := hE _ (List.getElem_mem hi)
    unfold m_spec_JournalOf_l4
    rw [getI_nat' hi, Option.bind_some]
    by_cases hlt : j < lines[i].length
    · rw [if_pos (by omega), getI_nat' hlt, Option.bind_some, List.drop_eq_getElem_cons hlt, nl_cons]
      by_cases h10 : lines[i][j] = 10
      · rw [if_pos (by rw [h10]; rfl), if_pos h10, if_pos rfl]
      · rw [if_neg (fun h => h10 (UInt8.toNat_inj.1 (by show lines[i][j].toNat = 10; omega))), if_neg h10, show w64 ((j : Int) + 1) = ((j + 1 : Nat) : Int) by rw [w64_id (by omega) (by omega)]; omega]
        exact spec_l4 K t hi x m (j + 1) (by omega) (by omega)
    · rw [if_neg (by omega), List.drop_eq_nil_of_le (by omega), if_neg (by decide)]
theorem spec_l2 : ∀ (m i : Nat) (t : Int), i ≤ lines.length → lines.length - i < m → 0 ≤ t → t ≤ 6000 →
    m_spec_JournalOf_l2 2000000 lines m t (i : Int) = if jok (lines.drop i) t = true then m_spec_JournalOf_j1 2000000 lines else some ([], false)
  | 0, i, _, _, h, _, _ => by omega
  | m + 1, i, t, hi, hm, h0, h1 => by
    unfold m_spec_JournalOf_l2
    by_cases hlt : i < lines.length
    · have hl := hE _ (List.getElem_mem hlt)
      have ew : w64 (t + w64 ((lines[i].length : Int) + 3)) = t + lines[i].length + 3 := by
        rw [w64_id (n := (lines[i].length : Int) + 3) (by omega) (by omega), w64_id (by omega) (by omega)]; omega
      rw [if_pos (by omega), getI_nat' hlt, Option.bind_some, ew, List.drop_eq_getElem_cons hlt, jok_cons]
      by_cases h2 : t + lines[i].length + 3 > 6000
      · rw [if_pos h2, if_pos h2, if_neg (by decide)]
      · rw [if_neg h2, if_neg h2]
        have h4 := spec_l4 hL hE (m_spec_JournalOf_l2 2000000 lines m) t hlt lines[i] 2000000 0 (Nat.zero_le _) (by omega)
        rw [List.drop_zero] at h4
        have h4 : m_spec_JournalOf_l4 2000000 lines (m_spec_JournalOf_l2 2000000 lines m) t (i : Int) lines[i] 2000000 (0 : Int) = _ := h4
        rw [h4]
        by_cases h5 : nl lines[i] = true
        · rw [if_pos h5, if_pos h5, if_neg (by decide)]
        · rw [if_neg h5, if_neg h5]
          unfold m_spec_JournalOf_j3
          rw [ew, show w64 ((i : Int) + 1) = ((i + 1 : Nat) : Int) by rw [w64_id (by omega) (by omega)]; omega]
          exact spec_l2 m (i + 1) _ (by omega) (by omega) (by omega) (by omega)
    · rw [if_neg (by omega), List.drop_eq_nil_of_le (by omega), if_pos (show jok [] t = true from rfl)]
omit hL hE in
theorem jok_le : ∀ (ls : List Str) (t : Int), jok ls t = true → 0 ≤ t → ∀ l ∈ ls, l.length ≤ 6000
  | [], _, _, _, _, h => by cases h
  | x :: r, t, h, h0, l, hl => by
    rw [jok_cons] at h
    split at h
    · cases h
    · split at h
      · cases h
      · rcases List.mem_cons.1 hl with rfl | hl
        · omega
        · exact jok_le r _ h (by omega) l hl
theorem journal_l1 (hS : ∀ l ∈ lines, l.length ≤ 6000) : ∀ (m i : Nat) (out : Str) (c : Int), i ≤ lines.length → lines.length - i < m → CkOk c → out.length ≤ 7000 * i →
    m_spec_l11Journal_l1 2000000 lines m out c (i : Int) = some (jr (lines.drop i) c out)
  | 0, i, _, _, _, h, _, _ => by omega
  | m + 1, i, out, c, hi, hm, hc, ho => by
    unfold m_spec_l11Journal_l1
    by_cases hlt : i < lines.length
    · have hl := hS _ (List.getElem_mem hlt)
      have hck := chk_ok lines[i] hc
      have hil := itoa_len hck
      have hr := row_len c lines[i]
      have e : Lib.itoa (chk c lines[i]) ++ [32] ++ lines[i] ++ [10] = row c lines[i] := rfl
      rw [if_pos (by omega), getI_nat' hlt, Option.bind_some, scheck_some _ hl hc, Option.bind_some, sdec_some hck, Option.bind_some]
      unfold grd
      rw [if_pos (by simp only [List.length_cons, List.length_nil]; omega), if_pos (by simp only [List.length_append, List.length_cons, List.length_nil]; omega), if_pos (by simp only [List.length_append, List.length_cons, List.length_nil]; omega), e, if_pos (by omega), show w64 ((i : Int) + 1) = ((i + 1 : Nat) : Int) by rw [w64_id (by omega) (by omega)]; omega, journal_l1 hS m (i + 1) _ _ (by omega) (by omega) hck (by rw [List.length_append]; omega), List.drop_eq_getElem_cons hlt, jr_cons]
    · rw [if_neg (by omega), List.drop_eq_nil_of_le (by omega)]; rfl
theorem ck0 : CkOk 0 := ⟨by omega, by omega⟩
theorem spec_some : m_spec_JournalOf 2000000 lines = some (resJ lines 0 [] 0) := by
  unfold m_spec_JournalOf
  have h := spec_l2 hL hE 2000000 0 0 (Nat.zero_le _) (by omega) (by omega) (by omega)
  have h : m_spec_JournalOf_l2 2000000 lines 2000000 (0 : Int) (0 : Int) = _ := h
  rw [h, List.drop_zero]
  unfold resJ
  by_cases ho : jok lines 0 = true
  · rw [if_pos ho]
    unfold m_spec_JournalOf_j1 m_spec_l11Journal
    have h := journal_l1 hL hE (jok_le lines 0 ho (by omega)) 2000000 0 [] 0 (Nat.zero_le _) (by omega) ⟨by omega, by omega⟩ (Nat.zero_le _)
    have h : m_spec_l11Journal_l1 2000000 lines 2000000 [] (0 : Int) (0 : Int) = _ := h
    rw [h, Option.bind_some, List.drop_zero]
    by_cases h2 : (jr lines 0 []).length ≤ 6000
    · rw [if_neg (by omega), if_pos ⟨ho, h2⟩]
    · rw [if_pos (by omega), if_neg (fun hh => h2 hh.2)]
  · rw [if_neg ho, if_neg (fun hh => ho hh.1)]
theorem toS_l1 : ∀ (m i : Nat) (v : List Str), v.length = lines.length → i ≤ lines.length → lines.length - i < m → (∀ j, j < i → v[j]? = lines[j]?) →
    m_laws_toStringS_l1 2000000 lines m v (i : Int) = some lines
  | 0, i, _, _, _, h, _ => by omega
  | m + 1, i, v, hv, hi, hm, hp => by
    unfold m_laws_toStringS_l1
    by_cases hlt : i < lines.length
    · rw [if_pos (by omega), getI_nat' hlt, Option.bind_some, getI_nat' (by omega), Option.bind_some, show w64 ((i : Int) + 1) = ((i + 1 : Nat) : Int) by rw [w64_id (by omega) (by omega)]; omega, Int.toNat_natCast]
      refine toS_l1 m (i + 1) _ (by rw [List.length_set]; exact hv) (by omega) (by omega) fun j hj => ?_
      rw [List.getElem?_set]
      by_cases hji : i = j
      · subst hji
        rw [if_pos rfl, if_pos (by omega), List.getElem?_eq_getElem hlt]
      · rw [if_neg hji]; exact hp j (by omega)
    · rw [if_neg (by omega)]
      have : i = lines.length := by omega
      subst this
      congr 1
      apply List.ext_getElem? 
      intro j
      by_cases hj : j < lines.length
      · exact hp j hj
      · rw [List.getElem?_eq_none (by omega), List.getElem?_eq_none (by omega)]
theorem toS_some : m_laws_toStringS 2000000 lines = some lines := by
  unfold m_laws_toStringS grd
  rw [if_pos ⟨by omega, by rw [Int.toNat_natCast]; unfold room; omega⟩, Int.toNat_natCast]
  exact toS_l1 hL hE 2000000 0 _ (by simp) (Nat.zero_le _) (by omega) fun j hj => by omega
theorem eqS_l1 : ∀ (m i : Nat), i ≤ lines.length → lines.length - i < m → m_laws_eqStringS_l1 2000000 lines lines m (i : Int) = some true
  | 0, i, _, h => by omega
  | m + 1, i, hi, hm => by
    unfold m_laws_eqStringS_l1
    by_cases h : i < lines.length
    · rw [if_pos (by omega), getI_nat' h, Option.bind_some, Option.bind_some, if_pos rfl, show w64 ((i : Int) + 1) = ((i + 1 : Nat) : Int) by rw [w64_id (by omega) (by omega)]; omega]
      exact eqS_l1 m (i + 1) (by omega) (by omega)
    · rw [if_neg (by omega)]
theorem eqS_some : m_laws_eqStringS 2000000 lines lines = some true := by
  unfold m_laws_eqStringS
  rw [if_pos rfl]
  exact eqS_l1 hL hE 2000000 0 (Nat.zero_le _) (by omega)
end
theorem sz_l1 (a : List Str) (hL : a.length ≤ 1048576) (hE : ∀ l ∈ a, l.length ≤ 9223372036854775807) : ∀ (m i : Nat) (left : Int), i ≤ a.length → a.length - i < m → 0 ≤ left → left ≤ 1048576 →
    ∃ r, m_laws_szStringS_l1 2000000 a m left (i : Int) = some r ∧ (0 ≤ r → ∀ l ∈ a.drop i, l.length ≤ 1048576)
  | 0, i, _, _, h, _, _ => by omega
  | m + 1, i, left, hi, hm, h0, h1 => by
    unfold m_laws_szStringS_l1
    by_cases h : i < a.length
    · have hl := hE _ (List.getElem_mem h)
      rw [if_pos (by omega), getI_nat' h, Option.bind_some, w64_id (n := left - (a[i].length : Int)) (by omega) (by omega)]
      by_cases h2 : left - (a[i].length : Int) < 0
      · rw [if_pos h2]
        exact ⟨_, rfl, fun h => by omega⟩
      · rw [if_neg h2, show w64 ((i : Int) + 1) = ((i + 1 : Nat) : Int) by rw [w64_id (by omega) (by omega)]; omega]
        obtain ⟨r, e, hr⟩ := sz_l1 a hL hE m (i + 1) (left - a[i].length) (by omega) (by omega) (by omega) (by omega)
        refine ⟨r, e, fun h0 l hl => ?_⟩
        rw [List.drop_eq_getElem_cons h] at hl
        rcases List.mem_cons.1 hl with rfl | hl
        · omega
        · exact hr h0 l hl
    · rw [if_neg (by omega)]
      exact ⟨_, rfl, fun _ l hl => by rw [List.drop_eq_nil_of_le (by omega)] at hl; cases hl⟩
theorem FnExactJournalOf_true (a : List Str) (hL : a.length ≤ 9223372036854775807) (hE : ∀ l ∈ a, l.length ≤ 9223372036854775807) : m_laws_FnExactJournalOf 2000000 a = some true := by
  unfold m_laws_FnExactJournalOf m_laws_szStringS
  rw [w64_id (n := (1048576 : Int) - (a.length : Int)) (by omega) (by omega)]
  by_cases h : (1048576 : Int) - (a.length : Int) < 0
  · rw [if_pos h, Option.bind_some, if_pos (by omega)]
  · rw [if_neg h]
    obtain ⟨r, e, hr⟩ := sz_l1 a (by omega) hE 2000000 0 (1048576 - a.length) (Nat.zero_le _) (by omega) (by omega) (by omega)
    have e : m_laws_szStringS_l1 2000000 a 2000000 (1048576 - a.length) (0 : Int) = some r := e
    rw [e, Option.bind_some]
    by_cases h2 : r < 0
    · rw [if_pos h2]
    · have hL' : a.length ≤ 1048576 := by omega
      have hE' := hr (by omega)
      rw [List.drop_zero] at hE'
      have hp : m_impl_JournalOf 2000000 a = some (resJ a 0 [] 0) := prog_some a 0 [] 0 ⟨by omega, by omega⟩ (by omega) (by omega)
      rw [if_neg h2, toS_some hL' hE', Option.bind_some, spec_some hL' hE', Option.bind_some, Option.bind_some, hp, Option.bind_some, if_pos rfl, beq_self_eq_true]
      unfold m_laws_FnExactJournalOf_j2
      rw [if_neg (by decide)]
      unfold m_laws_FnExactJournalOf_j1
      rw [toS_some hL' hE', Option.bind_some, eqS_some hL' hE', Option.bind_some, if_pos rfl]
end Go.Proofs.YtkagbffdmppbhaaDoor.AWN

namespace Go.Proofs.YtkagbffdmppbhaaDoor.AWN
open Go
def strsOf (len : Nat) (Sx : Nat → ByteArray) : List Str := (List.range len).map fun i => (Sx i).data.toList
theorem bstr_back (a : ByteArray) : bstr a.data.toList = a := by cases a; rfl
theorem rel_strs {W : World} {ok : Nat → Prop} {f : Str → List D} (hf : ∀ s, f s = [.str (bstr s)]) (hok : ∀ b, b < W.heap.size → ok b) {a : Option Addr} {len cap : Nat} {Sx : Nat → ByteArray} (h : (a = none ∧ len = 0 ∧ cap = 0) ∨
    ∃ x, a = some x ∧ len ≤ cap ∧ cap ≤ maxLen ∧ ∀ i, i < cap → W.cell? (x.add i) = some (.string (Sx i)) ∧ (Sx i).size ≤ maxLen) : RelD W ok (.sl false ((strsOf len Sx).map f)) (.slice a len cap) := by
  rcases h with ⟨rfl, rfl, rfl⟩ | ⟨x, rfl, h1, h2, h4⟩
  · exact .slnil false
  · by_cases hc : cap = 0
    · have hl : len = 0 := by omega
      subst hc hl
      exact .sle false x
    · have h0 := (h4 0 (by omega)).1
      have hsp : x.spot = none := by
        cases hs : x.spot with
        | none => rfl
        | some s =>
          exfalso
          unfold World.cell? at h0
          simp only [Addr.add, hs] at h0
          split at h0 <;> simp [hs] at h0
      obtain ⟨b, o, sp⟩ := x
      simp only at hsp
      subst hsp
      have hbl : ((strsOf len Sx).map f).length = len := by simp [strsOf]
      have hget : ∀ i, i < len → ((strsOf len Sx).map f).getD i [] = [.str (Sx i)] := by
        intro i hi
        simp [strsOf, List.getD_eq_getElem?_getD, hi, hf, bstr_back]
      refine .sl (sz := 1) (fun i _ => .string (Sx i)) (fun _ => hok b (cell_lt h0)) hbl h1 (fun h => nomatch h) (by omega) (fun i hi => by rw [hget i hi]; rfl) (fun i c hi hcc => ?_) (fun i c hi hcc => ?_)
      · have := (h4 i (by omega)).1
        have hc0 : c = 0 := by omega
        subst hc0
        by_cases hi0 : i = 0
        · subst hi0; simpa [Addr.add] using this
        · simpa [Addr.add, hi0] using this
      · have hc0 : c = 0 := by omega
        subst hc0
        rw [hget i hi]
        exact .str _
end Go.Proofs.YtkagbffdmppbhaaDoor.AWN
