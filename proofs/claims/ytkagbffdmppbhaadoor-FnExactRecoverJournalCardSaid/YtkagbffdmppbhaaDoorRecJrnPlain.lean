/- Lines, checks, decimals: in plain terms. -/
import Derived.Test.YtkagbffdmppbhaaDoorRecJrn
set_option linter.unusedVariables false
set_option linter.unusedSimpArgs false
set_option linter.unusedSectionVars false
namespace Go.Proofs.YtkagbffdmppbhaaDoor.AWN
open Go

theorem w64_id {n : Int} (h0 : -9223372036854775808 ≤ n) (h1 : n < 9223372036854775808) : w64 n = n := by
  show IntKind.wrap .i64 n = n
  simp only [IntKind.wrap, IntKind.signed, IntKind.bits]
  simp
  omega
theorem getI_nat' {α : Type} {l : List α} {i : Nat} (h : i < l.length) : getI l (i : Int) = some l[i] := by
  unfold getI
  rw [if_pos (by omega), Int.toNat_natCast, List.getElem?_eq_getElem h]
theorem sub_to_end (s : Str) (a : Nat) : sub s (a : Int) (s.length : Int) = s.drop a := by
  unfold sub
  rw [Int.toNat_natCast, Int.toNat_natCast, List.take_of_length_le (by simp)]
theorem sub_take (s : Str) (b : Nat) : sub s 0 (b : Int) = s.take b := by
  unfold sub; simp
theorem sub_len (s : Str) {a b : Nat} (h : b ≤ s.length) : (sub s (a : Int) (b : Int)).length = b - a := by
  unfold sub; simp; omega

/-! ### Checks -/
def chk (c : Int) (s : Str) : Int := s.foldl (fun v x => (691 * v + (x.toNat : Int) + 43) % 65003) c
def CkOk (c : Int) : Prop := 0 ≤ c ∧ c < 65003
theorem ck_step {c : Int} (h : CkOk c) (x : UInt8) : CkOk ((691 * c + (x.toNat : Int) + 43) % 65003) ∧ (w64 (w64 (w64 (691 * c) + w64 (x.toNat : Int)) + 43)).tmod 65003 = (691 * c + (x.toNat : Int) + 43) % 65003 := by
  obtain ⟨h0, h1⟩ := h
  have hx : x.toNat < 256 := UInt8.toNat_lt x
  have e1 : w64 (691 * c) = 691 * c := w64_id (by omega) (by omega)
  have e2 : w64 (x.toNat : Int) = (x.toNat : Int) := w64_id (by omega) (by omega)
  rw [e1, e2, w64_id (n := 691 * c + (x.toNat : Int)) (by omega) (by omega), w64_id (by omega) (by omega), Int.tmod_eq_emod_of_nonneg (by omega)]
  exact ⟨⟨Int.emod_nonneg _ (by omega), Int.emod_lt_of_pos _ (by omega)⟩, rfl⟩
theorem chk_ok : ∀ (s : Str) {c : Int}, CkOk c → CkOk (chk c s)
  | [], _, h => h
  | x :: s, _, h => chk_ok s (ck_step h x).1
theorem scheck_l1 (s : Str) (hs : s.length ≤ 6000) : ∀ (m k : Nat) (c : Int), k ≤ s.length → s.length - k < m → CkOk c → m_spec_l01Check_l1 7000 s m c (k : Int) = some (chk c (s.drop k))
  | 0, k, _, _, h, _ => by omega
  | m + 1, k, c, hk, hm, hc => by
    unfold m_spec_l01Check_l1
    split
    · rename_i hlt
      have hlt' : k < s.length := by omega
      rw [getI_nat' hlt', Option.bind_some, (ck_step hc _).2, show w64 ((k : Int) + 1) = ((k + 1 : Nat) : Int) by rw [w64_id (by omega) (by omega)]; omega, scheck_l1 s hs m (k + 1) _ (by omega) (by omega) (ck_step hc _).1, List.drop_eq_getElem_cons hlt']
      rfl
    · rw [List.drop_eq_nil_of_le (by omega)]; rfl
theorem scheck_some (s : Str) (hs : s.length ≤ 6000) {c : Int} (hc : CkOk c) : m_spec_l01Check 7000 c s = some (chk c s) := scheck_l1 s hs 7000 0 c (Nat.zero_le _) (by omega) hc
theorem icheck_l1 (s : Str) (hs : s.length ≤ 6000) : ∀ (m k : Nat) (c : Int), k ≤ s.length → s.length - k < m → CkOk c → m_impl_CheckOf_l1 7000 s m c (k : Int) = some (chk c (s.drop k), true)
  | 0, k, _, _, h, _ => by omega
  | m + 1, k, c, hk, hm, hc => by
    unfold m_impl_CheckOf_l1
    split
    · rename_i hlt
      have hlt' : k < s.length := by omega
      rw [getI_nat' hlt', Option.bind_some, (ck_step hc _).2, show w64 ((k : Int) + 1) = ((k + 1 : Nat) : Int) by rw [w64_id (by omega) (by omega)]; omega, icheck_l1 s hs m (k + 1) _ (by omega) (by omega) (ck_step hc _).1, List.drop_eq_getElem_cons hlt']
      rfl
    · rw [List.drop_eq_nil_of_le (by omega)]; rfl
theorem icheck_some (s : Str) (hs : s.length ≤ 6000) {c : Int} (hc : CkOk c) : m_impl_CheckOf 7000 c s = some (chk c s, true) := by
  unfold m_impl_CheckOf m_impl_in
  rw [if_pos hc.1, Option.bind_some, if_pos (decide_eq_true (by have := hc.2; omega))]
  exact icheck_l1 s hs 7000 0 c (Nat.zero_le _) (by omega) hc

/-! ### Decimals -/
theorem digit_val {r : Nat} : IntKind.wrap .u8 (w64 (48 + (r % 10 : Nat))) = ((48 + r % 10 : Nat) : Int) := by
  have h := Nat.mod_lt r (show 0 < 10 by omega)
  rw [w64_id (by omega) (by omega)]
  simp only [IntKind.wrap, IntKind.signed, IntKind.bits]
  simp
  omega
theorem tmod10 (r : Nat) : ((r : Int)).tmod 10 = ((r % 10 : Nat) : Int) := by
  rw [Int.tmod_eq_emod_of_nonneg (by omega)]; omega
theorem tdiv10 (r : Nat) (h : r < 2 ^ 62) : w64 (((r : Int)).tdiv 10) = ((r / 10 : Nat) : Int) := by
  rw [Int.tdiv_eq_ediv_of_nonneg (by omega), show (r : Int) / 10 = ((r / 10 : Nat) : Int) by omega]
  have : r / 10 ≤ r := Nat.div_le_self _ _
  have e : (2 : Nat) ^ 62 = 4611686018427387904 := by decide
  exact w64_id (by omega) (by omega)
theorem chars_cons (x : Int) (l : List Int) : chars (x :: l) = UInt8.ofNat x.toNat :: chars l := rfl
theorem digits_step (r : Nat) (h : ¬ r < 10) : Lib.decDigits r = Lib.decDigits (r / 10) ++ [UInt8.ofNat (48 + r % 10)] := by rw [Lib.decDigits, dif_neg h]
theorem digits_small (r : Nat) (h : r < 10) : Lib.decDigits r = [UInt8.ofNat (48 + r % 10)] := by rw [Lib.decDigits, dif_pos h, Nat.mod_eq_of_lt h]
theorem sdec_l3 (n : Nat) : ∀ (m r : Nat) (acc : List Int), r < 10 ^ m → r < 2 ^ 62 → acc.length + m ≤ 9000 → (r = 0 → acc = []) → 1 ≤ m → m_spec_l01Dec_l3 7000 (n : Int) (m + 1) acc (r : Int) = some (Lib.decDigits r ++ chars acc)
  | 0, r, acc, _, _, _, _, h => by omega
  | m + 1, r, acc, hr, h62, hl, h0, _ => by
    have go : m_spec_l01Dec_j4 7000 (m_spec_l01Dec_l3 7000 (n : Int) (m + 1)) acc (r : Int) = some (Lib.decDigits r ++ chars acc) := by
      unfold m_spec_l01Dec_j4
      rw [tmod10, if_neg (by omega)]
      unfold m_spec_l01Dec_j5 grd
      rw [if_pos (show room ([(IntKind.wrap .u8 ((w64 ((48 : Int) + ((r % 10 : Nat) : Int)))))].length + acc.length) 1 by unfold room; simp; omega), tdiv10 r h62, digit_val]
      by_cases h10 : r < 10
      · have e0 : r / 10 = 0 := Nat.div_eq_of_lt h10
        rw [e0]
        unfold m_spec_l01Dec_l3
        rw [if_neg (by simp; omega)]
        unfold m_spec_l01Dec_j6
        rw [if_neg (by simp)]
        unfold m_spec_l01Dec_j1 m_spec_l01Dec_j2
        rw [if_neg (by omega), digits_small r h10]
        rfl
      · have hlt : r / 10 < 10 ^ m := by
          rw [Nat.div_lt_iff_lt_mul (by omega)]
          rw [Nat.pow_succ] at hr; exact hr
        have hm1 : 1 ≤ m := by
          rcases Nat.eq_zero_or_pos m with rfl | h
          · simp at hr; omega
          · exact h
        have h11 : 1 ≤ r / 10 := by omega
        rw [sdec_l3 n m (r / 10) _ hlt (by have := Nat.div_le_self r 10; omega) (by simp; omega) (fun h => by omega) hm1, digits_step r h10, List.append_assoc]
        rfl
    unfold m_spec_l01Dec_l3
    by_cases ha : acc = []
    · rw [if_pos (by rw [ha]; rfl)]
      unfold m_spec_l01Dec_j6
      rw [if_pos rfl]
      exact go
    · have hr0 : r ≠ 0 := fun h => ha (h0 h)
      rw [if_neg (by
        intro h
        have : acc.length = 0 := by omega
        exact ha (List.eq_nil_of_length_eq_zero this))]
      unfold m_spec_l01Dec_j6
      rw [if_pos (by rw [decide_eq_false (by omega)]; rfl)]
      exact go
theorem sdec_some {c : Int} (h : CkOk c) : m_spec_l01Dec 7000 c = some (Lib.itoa c) := by
  obtain ⟨n, rfl⟩ : ∃ n : Nat, c = n := ⟨c.toNat, by have := h.1; omega⟩
  have h2 : n < 65003 := by have := h.2; omega
  have e : (2 : Nat) ^ 62 = 4611686018427387904 := by decide
  have h5 : (10 : Nat) ^ 5 = 100000 := by decide
  have hn5 : n < 10 ^ 5 := by omega
  obtain ⟨k, hk⟩ : ∃ k, k = 6999 := ⟨_, rfl⟩
  have hp : n < 10 ^ k := Nat.lt_of_lt_of_le hn5 (Nat.pow_le_pow_right (by omega) (by omega))
  have := sdec_l3 n k n [] hp (by omega) (by simp; omega) (fun _ => rfl) (by omega)
  rw [hk] at this
  unfold m_spec_l01Dec
  rw [this]
  unfold Lib.itoa
  rw [if_neg (by omega), Int.toNat_natCast]
  simp [chars]
theorem idec_some {c : Int} (h : CkOk c) : m_impl_Decimal 7000 c = some (Lib.itoa c) := by
  unfold m_impl_Decimal m_strconv_FormatInt dec10
  have := h.1; have := h.2
  rw [if_pos ⟨rfl, by omega, by omega⟩]; rfl
theorem itoa_len {c : Int} (h : CkOk c) : (Lib.itoa c).length ≤ 100 := by
  have len : ∀ (k r : Nat), r < 10 ^ (k + 1) → (Lib.decDigits r).length ≤ k + 1 := by
    intro k
    induction k with
    | zero => intro r hr; rw [digits_small r (by simpa using hr)]; simp
    | succ k ih =>
      intro r hr
      by_cases h10 : r < 10
      · rw [digits_small r h10]; simp
      · rw [digits_step r h10]
        have : r / 10 < 10 ^ (k + 1) := by
          rw [Nat.div_lt_iff_lt_mul (by omega)]
          rw [Nat.pow_succ] at hr; exact hr
        have := ih _ this
        simp; omega
  unfold Lib.itoa
  have h0 := h.1; have h1 := h.2
  rw [if_neg (by omega)]
  have h5 : (10 : Nat) ^ 5 = 100000 := by decide
  have := len 4 c.toNat (by omega)
  omega

/-! ### Places of bytes -/
theorem idxB_nil (c : Int) : idxB [] c = -1 := rfl
theorem find_map_succ (p : Nat → Bool) : ∀ l : List Nat, (l.map Nat.succ).find? p = (l.find? fun i => p (i + 1)).map Nat.succ
  | [] => rfl
  | a :: l => by
    rw [List.map_cons, List.find?_cons, List.find?_cons, find_map_succ p l]
    cases h : p (a + 1) <;> simp [h]
theorem idxB_cons (x : UInt8) (s : Str) (c : Int) : idxB (x :: s) c = if x = c.toNat.toUInt8 then 0 else if idxB s c = -1 then -1 else idxB s c + 1 := by
  unfold idxB
  rw [List.length_cons, List.range_succ_eq_map, List.find?_cons]
  by_cases h : x = c.toNat.toUInt8
  · rw [if_pos h]
    have : ((x :: s).getD 0 0 == c.toNat.toUInt8) = true := by simp [h]
    rw [this]; rfl
  · rw [if_neg h]
    have : ((x :: s).getD 0 0 == c.toNat.toUInt8) = false := by simp [h]
    rw [this, find_map_succ]
    have e : (fun i => (x :: s).getD (i + 1) 0 == c.toNat.toUInt8) = fun i => s.getD i 0 == c.toNat.toUInt8 := by funext i; simp
    simp only [e]
    cases (List.range s.length).find? (fun i => s.getD i 0 == c.toNat.toUInt8) with
    | none => rfl
    | some i => simp
theorem idxB_ge : ∀ (s : Str) (c : Int), -1 ≤ idxB s c ∧ idxB s c < s.length
  | [], c => by rw [idxB_nil]; simp
  | x :: s, c => by
    have ih := idxB_ge s c
    rw [idxB_cons, List.length_cons]
    split
    · omega
    · split
      · omega
      · omega
/-- The place of the first blank, or the length. -/
def spc : Str → Nat
  | [] => 0
  | x :: s => if x = 32 then 0 else spc s + 1
theorem spc_le : ∀ s : Str, spc s ≤ s.length
  | [] => Nat.le_refl _
  | x :: s => by
    have := spc_le s
    unfold spc
    split
    · omega
    · simp; omega
theorem idx_spc : ∀ s : Str, idxB s 32 = if spc s = s.length then -1 else (spc s : Int)
  | [] => rfl
  | x :: s => by
    have ih := idx_spc s
    have hl := spc_le s
    rw [idxB_cons]
    have e : ((32 : Int).toNat.toUInt8) = 32 := by decide
    rw [e]
    by_cases h : x = 32
    · rw [if_pos h]
      have : spc (x :: s) = 0 := by unfold spc; rw [if_pos h]
      rw [this, if_neg (by simp)]; rfl
    · have hs : spc (x :: s) = spc s + 1 := by rw [spc, if_neg h]
      rw [if_neg h, ih, hs]
      by_cases h2 : spc s = s.length
      · rw [if_pos h2, if_pos rfl, if_pos (by simp [h2])]
      · rw [if_neg h2, if_neg (by omega), if_neg (by simp; exact h2)]; omega
theorem spc_split : ∀ s : Str, spc s < s.length → s = s.take (spc s) ++ 32 :: s.drop (spc s + 1)
  | [], h => by simp at h
  | x :: s, h => by
    by_cases hx : x = 32
    · have : spc (x :: s) = 0 := by unfold spc; rw [if_pos hx]
      rw [this, hx]; rfl
    · have hs : spc (x :: s) = spc s + 1 := by rw [spc, if_neg hx]
      rw [hs] at h ⊢
      have := spc_split s (by simpa using h)
      simp only [List.take_succ_cons, List.drop_succ_cons, List.cons_append, ← this]
end Go.Proofs.YtkagbffdmppbhaaDoor.AWN

namespace Go.Proofs.YtkagbffdmppbhaaDoor.AWN
open Go

/-! ### Lines -/
/-- The lines that end, from place 'i' on, of a text of which the line began at 'st'; 'k': what is left. -/
def csegs (t : Str) : Nat → Nat → Nat → List (Nat × Nat)
  | 0, _, _ => []
  | k + 1, i, st => if t.getD i 0 = 10 then (st, i) :: csegs t k (i + 1) (i + 1) else csegs t k (i + 1) st
/-- Where the last one begins. -/
def lastS (t : Str) : Nat → Nat → Nat → Nat
  | 0, _, st => st
  | k + 1, i, st => if t.getD i 0 = 10 then lastS t k (i + 1) (i + 1) else lastS t k (i + 1) st
theorem csegs_succ (t : Str) (k i st : Nat) : csegs t (k + 1) i st = if t.getD i 0 = 10 then (st, i) :: csegs t k (i + 1) (i + 1) else csegs t k (i + 1) st := rfl
theorem csegs_zero (t : Str) (i st : Nat) : csegs t 0 i st = [] := rfl
theorem lastS_succ (t : Str) (k i st : Nat) : lastS t (k + 1) i st = if t.getD i 0 = 10 then lastS t k (i + 1) (i + 1) else lastS t k (i + 1) st := rfl
theorem lastS_zero (t : Str) (i st : Nat) : lastS t 0 i st = st := rfl
def lineS (t : Str) (p : Nat × Nat) : Str := sub t (p.1 : Int) (p.2 : Int)
theorem getD_of {t : Str} {i : Nat} (h : i < t.length) : t.getD i 0 = t[i] := by rw [List.getD_eq_getElem?_getD, List.getElem?_eq_getElem h]; rfl
theorem cut_l1 (t : Str) (ht : t.length ≤ 6000) : ∀ (m k i st : Nat) (acc : List Str), i + k = t.length → st ≤ i → k + 1 < m → acc.length ≤ i →
    m_spec_l01Cut_l1 7000 t 10 m acc (st : Int) (i : Int) = some (acc ++ (csegs t k i st).map (lineS t) ++ [sub t (lastS t k i st : Nat) (t.length : Int)])
  | 0, k, i, st, acc, _, _, h, _ => by omega
  | m + 1, k, i, st, acc, hik, hst, hm, ha => by
    have ew : w64 ((i : Int) + 1) = ((i + 1 : Nat) : Int) := by rw [w64_id (by omega) (by omega)]; omega
    unfold m_spec_l01Cut_l1
    rw [if_pos (by omega)]
    rcases k with _ | k
    · have hi : i = t.length := by omega
      rw [if_pos (by omega)]
      unfold m_spec_l01Cut_j3 grd
      rw [if_pos rfl, if_pos ⟨by omega, by omega, by omega⟩, if_pos (show room (acc.length + 1) 16 by unfold room; omega)]
      unfold m_spec_l01Cut_j2
      rw [ew]
      rcases m with _ | m
      · omega
      · unfold m_spec_l01Cut_l1
        rw [if_neg (by omega)]
        rw [csegs_zero, lastS_zero, List.map_nil, List.append_nil, ← hi]
    · have hlt : i < t.length := by omega
      rw [if_neg (by omega), getI_nat' hlt, Option.bind_some]
      have hd := getD_of hlt
      unfold m_spec_l01Cut_j3 grd
      by_cases h10 : t[i] = 10
      · rw [if_pos (decide_eq_true (by rw [h10]; rfl)), if_pos ⟨by omega, by omega, by omega⟩, if_pos (show room (acc.length + 1) 16 by unfold room; omega)]
        unfold m_spec_l01Cut_j2
        rw [ew, cut_l1 t ht m k (i + 1) (i + 1) _ (by omega) (by omega) (by omega) (by simp; omega)]
        rw [csegs_succ, lastS_succ, hd, if_pos h10, if_pos h10, List.map_cons]
        show some (acc ++ [lineS t (st, i)] ++ _ ++ _) = _
        simp
      · rw [if_neg (by
          simp only [decide_eq_true_eq]
          intro h
          exact h10 (UInt8.toNat_inj.1 (by show t[i].toNat = 10; omega)))]
        unfold m_spec_l01Cut_j2
        rw [ew, cut_l1 t ht m k (i + 1) st _ (by omega) (by omega) (by omega) (by omega)]
        rw [csegs_succ, lastS_succ, hd, if_neg h10, if_neg h10]
theorem csegs_len (t : Str) : ∀ k i st, (csegs t k i st).length ≤ k
  | 0, _, _ => Nat.le_refl _
  | k + 1, i, st => by
    rw [csegs_succ]
    split
    · have := csegs_len t k (i + 1) (i + 1)
      simp; omega
    · have := csegs_len t k (i + 1) st
      omega
def allL (t : Str) : List Str := (csegs t t.length 0 0).map (lineS t)
theorem lines_some (t : Str) (ht : t.length ≤ 6000) : ∃ x, m_spec_l11Lines 7000 t = some (allL t, x) := by
  unfold m_spec_l11Lines m_spec_l01Cut
  have h := cut_l1 t ht 7000 t.length 0 0 [] (by omega) (Nat.le_refl _) (by omega) (Nat.zero_le _)
  have h : m_spec_l01Cut_l1 7000 t 10 7000 [] (0 : Int) (0 : Int) = _ := h
  rw [h, Option.bind_some, List.nil_append]
  have hl : (allL t ++ [sub t (lastS t t.length 0 0 : Nat) (t.length : Int)]).length = (allL t).length + 1 := by simp
  have hle : (allL t).length ≤ 6000 := by
    unfold allL
    have := csegs_len t t.length 0 0
    simp; omega
  have hw : w64 (((allL t ++ [sub t (lastS t t.length 0 0 : Nat) (t.length : Int)]).length : Int) - 1) = ((allL t).length : Int) := by rw [hl, w64_id (by omega) (by omega)]; omega
  unfold grd
  unfold allL at hw hl hle ⊢
  rw [hw, if_pos ⟨by omega, by omega, by omega, by omega⟩, getI_nat' (by omega), Option.bind_some]
  simp

/-! ### The next end of a line -/
def fnl (t : Str) : Nat → Nat → Option Nat
  | 0, _ => none
  | k + 1, i => if t.getD i 0 = 10 then some i else fnl t k (i + 1)
theorem fnl_succ (t : Str) (k i : Nat) : fnl t (k + 1) i = if t.getD i 0 = 10 then some i else fnl t k (i + 1) := rfl
theorem fnl_bound (t : Str) : ∀ k i p, fnl t k i = some p → i ≤ p ∧ p < i + k
  | 0, _, _, h => by cases h
  | k + 1, i, p, h => by
    rw [fnl_succ] at h
    split at h
    · cases h; omega
    · have := fnl_bound t k (i + 1) p h
      omega
theorem csegs_fnl (t : Str) : ∀ k i st, csegs t k i st = match fnl t k i with
    | none => []
    | some p => (st, p) :: csegs t (i + k - (p + 1)) (p + 1) (p + 1)
  | 0, _, _ => rfl
  | k + 1, i, st => by
    rw [csegs_succ, fnl_succ]
    by_cases h : t.getD i 0 = 10
    · rw [if_pos h, if_pos h]
      show _ :: _ = _ :: csegs t (i + (k + 1) - (i + 1)) _ _
      rw [show i + (k + 1) - (i + 1) = k by omega]
    · rw [if_neg h, if_neg h, csegs_fnl t k (i + 1) st]
      cases fnl t k (i + 1) with
      | none => rfl
      | some p =>
        show _ :: csegs t (i + 1 + k - (p + 1)) _ _ = _ :: csegs t (i + (k + 1) - (p + 1)) _ _
        rw [show i + 1 + k = i + (k + 1) by omega]
theorem idx_fnl (t : Str) : ∀ k i, i + k = t.length → idxB (t.drop i) 10 = match fnl t k i with
    | none => -1
    | some p => (p : Int) - i
  | 0, i, h => by rw [List.drop_eq_nil_of_le (by omega)]; rfl
  | k + 1, i, h => by
    have hlt : i < t.length := by omega
    have e : ((10 : Int).toNat.toUInt8) = 10 := by decide
    rw [List.drop_eq_getElem_cons hlt, idxB_cons, e]
    rw [fnl_succ, getD_of hlt]
    by_cases h10 : t[i] = 10
    · rw [if_pos h10, if_pos h10]
      show (0 : Int) = (i : Int) - i
      omega
    · rw [if_neg h10, if_neg h10, idx_fnl t k (i + 1) (by omega)]
      cases hf : fnl t k (i + 1) with
      | none => rfl
      | some p =>
        have := fnl_bound t k (i + 1) p hf
        show (if ((p : Int) - ((i + 1 : Nat) : Int)) = -1 then (-1 : Int) else _) = _
        rw [if_neg (by omega)]
        show (p : Int) - ((i + 1 : Nat) : Int) + 1 = (p : Int) - i
        omega

/-! ### What is recovered -/
def recF : List Str → List Str → Int → Int → List Str × Int
  | [], out, _, n => (out, n)
  | l :: r, out, c, n => if spc l = l.length then (out, n) else
    if l.take (spc l) = Lib.itoa (chk c (l.drop (spc l + 1))) then recF r (out ++ [l.drop (spc l + 1)]) (chk c (l.drop (spc l + 1))) (n + l.length + 1) else (out, n)
section
variable {lines : List Str} (x : Str) (h6 : lines.length ≤ 6000) (hL : ∀ l ∈ lines, l.length ≤ 6000)
include h6 hL
theorem srec_l4 (K : List Str → Int → Int → Int → Option (List Str × Int × Bool)) (out : List Str) (c n : Int) {i : Nat} (hi : i < lines.length) : ∀ (m j : Nat), j + spc (lines[i].drop j) ≤ lines[i].length → lines[i].length - j < m → (∀ a, a < j → lines[i].getD a 0 ≠ 32) →
    m_spec_RecoverJournal_l4 7000 (lines, x) K out c n (i : Int) m (j : Int) = m_spec_RecoverJournal_j3 7000 (lines, x) K out c n (i : Int) ((j + spc (lines[i].drop j) : Nat) : Int)
  | 0, j, _, h, _ => by omega
  | m + 1, j, hj, hm, hb => by
    have hl := hL _ (List.getElem_mem hi)
    unfold m_spec_RecoverJournal_l4
    dsimp only
    rw [getI_nat' hi, Option.bind_some]
    by_cases hlt : j < lines[i].length
    · rw [if_pos (by omega), getI_nat' hlt, Option.bind_some]
      have hd : lines[i].drop j = lines[i][j] :: lines[i].drop (j + 1) := List.drop_eq_getElem_cons hlt
      unfold m_spec_RecoverJournal_j6
      by_cases h32 : lines[i][j] = 32
      · rw [if_neg (by rw [h32]; decide), hd]
        unfold spc
        rw [if_pos h32]; rfl
      · have hs : spc (lines[i].drop j) = spc (lines[i].drop (j + 1)) + 1 := by rw [hd, spc, if_neg h32]
        rw [if_pos (by
          rw [decide_eq_false (fun h => h32 (UInt8.toNat_inj.1 (by show lines[i][j].toNat = 32; omega)))]; rfl)]
        unfold m_spec_RecoverJournal_j5
        rw [show w64 ((j : Int) + 1) = ((j + 1 : Nat) : Int) by rw [w64_id (by omega) (by omega)]; omega, srec_l4 K out c n hi m (j + 1) (by omega) (by omega) (fun a ha => by
          rcases Nat.lt_or_ge a j with h | h
          · exact hb a h
          · have : a = j := by omega
            subst this
            rw [getD_of hlt]; exact h32), hs]
        congr 2
        omega
    · rw [if_neg (by omega)]
      unfold m_spec_RecoverJournal_j6
      rw [if_neg (by decide), List.drop_eq_nil_of_le (by omega)]
      rfl
theorem srec_l1 : ∀ (m i : Nat) (out : List Str) (c n : Int), i ≤ lines.length → lines.length - i < m → CkOk c → out.length ≤ i → 0 ≤ n → n ≤ 7000 * i →
    m_spec_RecoverJournal_l1 7000 (lines, x) m out c n (i : Int) = some ((recF (lines.drop i) out c n).1, (recF (lines.drop i) out c n).2, true)
  | 0, i, _, _, _, _, h, _, _, _, _ => by omega
  | m + 1, i, out, c, n, hi, hm, hc, ho, hn0, hn => by
    unfold m_spec_RecoverJournal_l1
    dsimp only
    by_cases hlt : i < lines.length
    · have hl := hL _ (List.getElem_mem hlt)
      have hsp := spc_le lines[i]
      rw [if_pos (by omega)]
      have h4 := srec_l4 x h6 hL (m_spec_RecoverJournal_l1 7000 (lines, x) m) out c n hlt 7000 0 (by rw [List.drop_zero]; omega) (by omega) (fun a h => by omega)
      rw [List.drop_zero, Nat.zero_add] at h4
      have h4 : m_spec_RecoverJournal_l4 7000 (lines, x) (m_spec_RecoverJournal_l1 7000 (lines, x) m) out c n (i : Int) 7000 (0 : Int) = _ := h4
      rw [h4]
      unfold m_spec_RecoverJournal_j3
      dsimp only
      rw [getI_nat' hlt, Option.bind_some, List.drop_eq_getElem_cons hlt]
      unfold recF
      by_cases he : spc lines[i] = lines[i].length
      · rw [if_pos (by omega), if_pos he]
      · have hlt2 : spc lines[i] < lines[i].length := by omega
        have ew : w64 (((spc lines[i] : Nat) : Int) + 1) = ((spc lines[i] + 1 : Nat) : Int) := by rw [w64_id (by omega) (by omega)]; omega
        have hb : (lines[i].drop (spc lines[i] + 1)).length ≤ 6000 := by simp; omega
        have hck := chk_ok (lines[i].drop (spc lines[i] + 1)) hc
        rw [if_neg (by omega), if_neg he, ew]
        unfold grd
        rw [if_pos ⟨by omega, by omega, by omega⟩, sub_to_end, scheck_some _ hb hc, Option.bind_some, if_pos ⟨by omega, by omega, by omega⟩, sdec_some hck, Option.bind_some, sub_take]
        by_cases hd : lines[i].take (spc lines[i]) = Lib.itoa (chk c (lines[i].drop (spc lines[i] + 1)))
        · rw [if_pos hd, if_pos hd, if_pos (show room (out.length + 1) 16 by unfold room; omega)]
          unfold m_spec_RecoverJournal_j2
          rw [show w64 ((i : Int) + 1) = ((i + 1 : Nat) : Int) by rw [w64_id (by omega) (by omega)]; omega, w64_id (n := (lines[i].length : Int) + 1) (by omega) (by omega), w64_id (n := n + ((lines[i].length : Int) + 1)) (by omega) (by omega), ← Int.add_assoc]
          exact srec_l1 m (i + 1) _ _ _ (by omega) (by omega) hck (by simp; omega) (by omega) (by omega)
        · rw [if_neg hd, if_neg hd]
    · rw [if_neg (by omega), List.drop_eq_nil_of_le (by omega)]
      rfl
end
theorem cseg_in (t : Str) : ∀ k i st, i + k = t.length → st ≤ i → ∀ p ∈ csegs t k i st, p.1 ≤ p.2 ∧ p.2 < t.length
  | 0, _, _, _, _, p, h => by cases h
  | k + 1, i, st, hik, hst, p, h => by
    rw [csegs_succ] at h
    split at h
    · rcases List.mem_cons.1 h with rfl | h
      · exact ⟨hst, by show i < _; omega⟩
      · exact cseg_in t k (i + 1) (i + 1) (by omega) (by omega) p h
    · exact cseg_in t k (i + 1) st (by omega) (by omega) p h
def recT (t : Str) : List Str × Int × Bool := if t.length > 6000 then ([], 0, false) else ((recF (allL t) [] 0 0).1, (recF (allL t) [] 0 0).2, true)
theorem ck0 : CkOk 0 := ⟨by omega, by omega⟩
theorem srec_some (t : Str) : m_spec_RecoverJournal 7000 t = some (recT t) := by
  unfold m_spec_RecoverJournal recT
  by_cases h : t.length > 6000
  · rw [if_pos (by omega), if_pos h]
  · rw [if_neg (by omega), if_neg h]
    obtain ⟨x, e⟩ := lines_some t (by omega)
    rw [e, Option.bind_some]
    have hl : (allL t).length ≤ 6000 := by
      unfold allL
      have := csegs_len t t.length 0 0
      simp; omega
    have hL : ∀ l ∈ allL t, l.length ≤ 6000 := by
      intro l hl
      obtain ⟨p, hp, rfl⟩ := List.mem_map.1 hl
      obtain ⟨p1, p2⟩ := cseg_in t t.length 0 0 (by omega) (Nat.le_refl _) p hp
      unfold lineS
      rw [sub_len t (by omega)]; omega
    exact srec_l1 x hl hL 7000 0 [] 0 0 (Nat.zero_le _) (by omega) ck0 (Nat.zero_le _) (by omega) (by omega)

/-! ### The program's way -/
theorem cutw_some (s : Str) (hs : s.length ≤ 6000) : m_strings_Cut 7000 s [32] = some (if spc s = s.length then (s, [], false) else (s.take (spc s), s.drop (spc s + 1), true)) := by
  have hle := spc_le s
  have hidx : m_stringslite_Index 7000 s [32] = some (idxB s 32) := by
    unfold m_stringslite_Index m_stringslite_Index_j1
    rw [if_neg (by decide)]
    by_cases h : ([32] : Str) = s
    · subst h
      rw [if_pos (by decide)]
      rfl
    · rw [if_neg (by simpa using h), if_pos (by decide)]
      rfl
  unfold m_strings_Cut m_stringslite_Cut
  rw [hidx, Option.bind_some, idx_spc]
  by_cases h : spc s = s.length
  · rw [if_pos h, if_neg (by omega), if_pos h]; rfl
  · have ew : w64 (((spc s : Nat) : Int) + (([32] : Str).length : Int)) = ((spc s + 1 : Nat) : Int) := by
      show w64 (((spc s : Nat) : Int) + 1) = _
      rw [w64_id (by omega) (by omega)]; omega
    rw [if_neg h, if_pos (by omega), if_neg h]
    unfold grd
    rw [ew, if_pos ⟨by omega, by omega, by omega⟩, if_pos ⟨by omega, by omega, by omega⟩, sub_take, sub_to_end]
    rfl
theorem irec_l1 (t : Str) (ht : t.length ≤ 6000) : ∀ (m at_ : Nat) (out : List Str) (c : Int), at_ ≤ t.length → t.length - at_ < m → CkOk c → out.length ≤ at_ →
    m_impl_RecoverJournal_l1 7000 t m out (at_ : Int) c = some ((recF ((csegs t (t.length - at_) at_ at_).map (lineS t)) out c at_).1, (recF ((csegs t (t.length - at_) at_ at_).map (lineS t)) out c at_).2, true)
  | 0, at_, _, _, _, h, _, _ => by omega
  | m + 1, at_, out, c, ha, hm, hc, ho => by
    unfold m_impl_RecoverJournal_l1 grd
    rw [if_pos ⟨by omega, by omega, by omega⟩, sub_to_end]
    unfold m_strings_IndexByte m_stringslite_IndexByte
    rw [Option.bind_some, Option.bind_some, idx_fnl t (t.length - at_) at_ (by omega), csegs_fnl]
    cases hf : fnl t (t.length - at_) at_ with
    | none =>
      dsimp only
      rw [if_pos (by omega)]
      rfl
    | some p =>
      obtain ⟨p1, p2⟩ := fnl_bound _ _ _ _ hf
      have hp : w64 ((at_ : Int) + ((p : Int) - at_)) = (p : Int) := by rw [show (at_ : Int) + ((p : Int) - at_) = (p : Int) by omega]; exact w64_id (by omega) (by omega)
      dsimp only
      have hneg : ¬ ((p : Int) - (at_ : Int) < 0) := by omega
      rw [if_neg hneg, hp, if_pos ⟨by omega, by omega, by omega⟩]
      obtain ⟨l, hl⟩ : ∃ l, l = lineS t (at_, p) := ⟨_, rfl⟩
      have hl' : sub t (at_ : Int) (p : Int) = l := hl.symm
      have hll : l.length = p - at_ := by rw [hl]; exact sub_len t (by omega)
      have hsp := spc_le l
      rw [hl', cutw_some l (by omega), Option.bind_some, List.map_cons, ← hl]
      unfold recF
      by_cases he : spc l = l.length
      · rw [if_pos he, if_pos he]
        dsimp only
        rw [icheck_some [] (by simp) hc, Option.bind_some, if_neg (by decide)]
        unfold m_impl_RecoverJournal_j3
        rw [if_pos rfl]
      · have hb : (l.drop (spc l + 1)).length ≤ 6000 := by simp; omega
        have hck := chk_ok (l.drop (spc l + 1)) hc
        have hil := itoa_len hck
        rw [if_neg he, if_neg he]
        dsimp only
        rw [icheck_some _ hb hc, Option.bind_some, if_pos rfl, if_pos ⟨by omega, by omega, by omega⟩]
        dsimp only
        rw [idec_some hck, Option.bind_some, if_pos (by simp; omega), if_pos (by simp; omega)]
        have hsplit := spc_split l (by omega)
        have hiff : ((Lib.itoa (chk c (l.drop (spc l + 1))) ++ [32]) ++ l.drop (spc l + 1) = l) ↔ l.take (spc l) = Lib.itoa (chk c (l.drop (spc l + 1))) := by
          constructor
          · intro h
            have h2 : Lib.itoa (chk c (l.drop (spc l + 1))) ++ (32 :: l.drop (spc l + 1)) = l.take (spc l) ++ (32 :: l.drop (spc l + 1)) := by
              rw [← hsplit]
              simpa using h
            exact (List.append_cancel_right h2).symm
          · intro h
            rw [← h]
            simpa using hsplit.symm
        unfold m_impl_RecoverJournal_j3
        by_cases hd : l.take (spc l) = Lib.itoa (chk c (l.drop (spc l + 1)))
        · rw [decide_eq_true (hiff.2 hd), if_neg (by decide), if_pos hd]
          unfold m_impl_RecoverJournal_j2 grd
          dsimp only
          rw [if_pos (show room (out.length + 1) 16 by unfold room; omega), hp, show w64 ((p : Int) + 1) = ((p + 1 : Nat) : Int) by rw [w64_id (by omega) (by omega)]; omega, irec_l1 t ht m (p + 1) _ _ (by omega) (by omega) hck (by simp; omega)]
          rw [show at_ + (t.length - at_) - (p + 1) = t.length - (p + 1) by omega, show (at_ : Int) + (l.length : Int) + 1 = ((p + 1 : Nat) : Int) by omega]
        · rw [decide_eq_false (fun h => hd (hiff.1 h)), if_pos (by decide), if_neg hd]
theorem irec_some (t : Str) : m_impl_RecoverJournal 7000 t = some (recT t) := by
  unfold m_impl_RecoverJournal recT
  by_cases h : t.length > 6000
  · rw [if_pos (by omega), if_pos h]
  · rw [if_neg (by omega), if_neg h]
    have := irec_l1 t (by omega) 7000 0 [] 0 (Nat.zero_le _) (by omega) ck0 (Nat.zero_le _)
    exact this
end Go.Proofs.YtkagbffdmppbhaaDoor.AWN

namespace Go.Proofs.YtkagbffdmppbhaaDoor.AWN
open Go

theorem recF_len : ∀ (ls out : List Str) (c n : Int), (recF ls out c n).1.length ≤ out.length + ls.length
  | [], out, _, _ => by simp [recF]
  | l :: r, out, c, n => by
    unfold recF
    split
    · exact Nat.le_add_right _ _
    · split
      · have := recF_len r (out ++ [l.drop (spc l + 1)]) (chk c (l.drop (spc l + 1))) (n + l.length + 1)
        simp only [List.length_append, List.length_cons, List.length_nil] at this ⊢
        omega
      · exact Nat.le_add_right _ _
theorem recT_len (t : Str) : (recT t).1.length ≤ 6000 := by
  unfold recT
  split
  · exact Nat.zero_le _
  · have h1 := recF_len (allL t) [] 0 0
    have h2 : (allL t).length ≤ 6000 := by
      unfold allL
      have := csegs_len t t.length 0 0
      simp; omega
    have h3 : ([] : List Str).length = 0 := rfl
    show (recF (allL t) [] 0 0).1.length ≤ 6000
    omega
theorem markText_l2_some : ∀ (m : Nat) (v : Int) (s : Str), 0 ≤ v → v < m → s.length + m ≤ 9000 → ∃ r, m_laws_markText_l2 7000 m v s = some r
  | 0, v, _, h0, h, _ => by omega
  | m + 1, v, s, h0, h, hs => by
    unfold m_laws_markText_l2 m_laws_markText_j1 grd
    by_cases hv : v > 0
    · rw [if_pos hv]
      have hl : ∀ x : Int, (chars [x]).length = 1 := fun x => rfl
      rw [if_pos (by rw [hl]; omega)]
      have hd : v.tdiv 10 = v / 10 := Int.tdiv_eq_ediv_of_nonneg h0
      rw [hd, w64_id (by omega) (by omega)]
      exact markText_l2_some m (v / 10) _ (by omega) (by omega) (by rw [List.length_append, hl]; omega)
    · rw [if_neg hv, if_pos (by show 1 + s.length ≤ _; omega)]
      exact ⟨_, rfl⟩
def mk (k : Nat) : Str := (m_laws_markText 7000 (k : Int)).getD []
theorem mk_some {k : Nat} (h : k < 7000) : m_laws_markText 7000 (k : Int) = some (mk k) := by
  have : ∃ r, m_laws_markText 7000 (k : Int) = some r := by
    unfold m_laws_markText
    by_cases h0 : (k : Int) ≤ 0
    · rw [if_pos h0]; exact ⟨_, rfl⟩
    · rw [if_neg h0]
      exact markText_l2_some 7000 k [] (by omega) (by omega) (by simp)
  obtain ⟨r, e⟩ := this
  unfold mk
  rw [e]; rfl
theorem eqS_l1 (a : List Str) (ha : a.length ≤ 6000) : ∀ (m i : Nat), i ≤ a.length → a.length - i < m → m_laws_eqStringS_l1 7000 a a m (i : Int) = some true
  | 0, i, _, h => by omega
  | m + 1, i, hi, hm => by
    unfold m_laws_eqStringS_l1
    by_cases h : i < a.length
    · rw [if_pos (by omega), getI_nat' h, Option.bind_some, Option.bind_some, if_pos rfl, show w64 ((i : Int) + 1) = ((i + 1 : Nat) : Int) by rw [w64_id (by omega) (by omega)]; omega]
      exact eqS_l1 a ha m (i + 1) (by omega) (by omega)
    · rw [if_neg (by omega)]
theorem eqS_some (a : List Str) (ha : a.length ≤ 6000) : m_laws_eqStringS 7000 a a = some true := by
  unfold m_laws_eqStringS
  rw [if_pos rfl]
  exact eqS_l1 a ha 7000 0 (Nat.zero_le _) (by omega)
theorem markS_l1 : ∀ (m i : Nat) (a : List Str), a.length ≤ 6000 → i ≤ a.length → a.length - i < m → (∀ j, j < i → a.getD j [] = mk (j + 1)) →
    ∃ b, m_laws_markStringS_l1 7000 m a ((i + 1 : Nat) : Int) (i : Int) = some (((a.length + 1 : Nat) : Int), b) ∧ b.length = a.length ∧ ∀ j, j < a.length → b.getD j [] = mk (j + 1)
  | 0, i, _, _, _, h, _ => by omega
  | m + 1, i, a, ha, hi, hm, hp => by
    unfold m_laws_markStringS_l1
    by_cases h : i < a.length
    · rw [if_pos (by omega), mk_some (by omega), Option.bind_some, getI_nat' h, Option.bind_some, show w64 ((i : Int) + 1) = ((i + 1 : Nat) : Int) by rw [w64_id (by omega) (by omega)]; omega, show w64 (((i + 1 : Nat) : Int) + 1) = ((i + 1 + 1 : Nat) : Int) by rw [w64_id (by omega) (by omega)]; omega, Int.toNat_natCast]
      obtain ⟨b, e, hl, hb⟩ := markS_l1 m (i + 1) (a.set i (mk (i + 1))) (by simpa using ha) (by rw [List.length_set]; omega) (by rw [List.length_set]; omega) (fun j hj => by
        rw [List.getD_eq_getElem?_getD, List.getElem?_set]
        by_cases hji : i = j
        · subst hji
          rw [if_pos rfl, if_pos h]; rfl
        · rw [if_neg hji, ← List.getD_eq_getElem?_getD]
          exact hp j (by omega))
      rw [List.length_set] at e hl hb
      exact ⟨b, e, hl, hb⟩
    · rw [if_neg (by omega)]
      have : i = a.length := by omega
      subst this
      exact ⟨a, rfl, rfl, hp⟩
theorem heldS_l1 (a : List Str) (ha : a.length ≤ 6000) (hp : ∀ j, j < a.length → a.getD j [] = mk (j + 1)) : ∀ (m i : Nat), i ≤ a.length → a.length - i < m →
    m_laws_heldStringS_l1 7000 a m ((i + 1 : Nat) : Int) (i : Int) = some ((a.length + 1 : Nat) : Int)
  | 0, i, _, h => by omega
  | m + 1, i, hi, hm => by
    unfold m_laws_heldStringS_l1
    by_cases h : i < a.length
    · have e : a[i] = mk (i + 1) := by
        rw [← hp i h, List.getD_eq_getElem?_getD, List.getElem?_eq_getElem h]; rfl
      rw [if_pos (by omega), mk_some (by omega), getI_nat' h, Option.bind_some, Option.bind_some, if_pos e, show w64 ((i : Int) + 1) = ((i + 1 : Nat) : Int) by rw [w64_id (by omega) (by omega)]; omega, show w64 (((i + 1 : Nat) : Int) + 1) = ((i + 1 + 1 : Nat) : Int) by rw [w64_id (by omega) (by omega)]; omega]
      exact heldS_l1 a ha hp m (i + 1) (by omega) (by omega)
    · rw [if_neg (by omega), show i = a.length by omega]
theorem FnExactRecoverJournal_true (t : Str) : m_laws_FnExactRecoverJournal 7000 t = some true := by
  unfold m_laws_FnExactRecoverJournal
  by_cases h : (t.length : Int) > 1048576
  · rw [if_pos h]
  · have hl := recT_len t
    obtain ⟨x, hx⟩ : ∃ x, x = recT t := ⟨_, rfl⟩
    have hs := srec_some t
    have hi := irec_some t
    rw [← hx] at hl hs hi
    rw [if_neg h, hs, hi, Option.bind_some, Option.bind_some, eqS_some _ hl, Option.bind_some, if_pos rfl, if_pos rfl, beq_self_eq_true]
    unfold m_laws_FnExactRecoverJournal_j4
    rw [if_neg (by decide)]
    unfold m_laws_FnExactRecoverJournal_j1 grd
    obtain ⟨b, e, hbl, hb⟩ := markS_l1 7000 0 x.1 hl (Nat.zero_le _) (by omega) (fun j hj => by omega)
    have e : m_laws_markStringS 7000 x.1 1 = some (((x.1.length + 1 : Nat) : Int), b) := e
    have hh := heldS_l1 b (by omega) (by rw [hbl]; exact hb) 7000 0 (Nat.zero_le _) (by omega)
    have hh : m_laws_heldStringS 7000 b 1 = some ((b.length + 1 : Nat) : Int) := hh
    rw [hbl] at hh
    rw [e, Option.bind_some]
    dsimp only
    rw [if_pos hbl, hh, Option.bind_some, if_neg (by omega), if_pos rfl, hi, Option.bind_some, eqS_some _ hl, Option.bind_some, if_pos rfl, if_pos rfl, beq_self_eq_true]
    unfold m_laws_FnExactRecoverJournal_j3
    rw [if_neg (by decide)]
    unfold m_laws_FnExactRecoverJournal_j2
    dsimp only
    rw [hh, Option.bind_some, if_neg (by omega), if_pos rfl]
end Go.Proofs.YtkagbffdmppbhaaDoor.AWN
