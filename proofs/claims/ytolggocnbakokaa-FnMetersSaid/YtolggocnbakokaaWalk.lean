/- Drawn sources. -/
import Derived.Test.YtolggocnbakokaaTypes
import Derived.Below
import Derived.Test.YtolggocnbakokaaFloat
set_option linter.unusedVariables false
set_option linter.unusedSimpArgs false
namespace Go.Proofs.Ytolggocnbakokaa.AWN
open Go Go.Proofs.Try

theorem wrap_id (n : Int) (h0 : -9223372036854775808 ≤ n) (h1 : n < 9223372036854775808) : IntKind.wrap .i64 n = n := by
  simp only [IntKind.wrap, IntKind.signed, IntKind.bits]
  simp
  omega

theorem in_ok (n lo hi : Int) : ACall prog false 60 [.d (.int .i64 n), .d (.int .i64 lo), .d (.int .i64 hi)] [] (fun r o new => r = .d (.bool (decide (lo ≤ n) && decide (n ≤ hi))) ∧ o = [] ∧ new = []) := by
  refine acall_of_aw hτ func60 rfl (by simp) (by simp) ?_
  repeat first
    | refine awl_val hτ rfl rfl rfl ?_
    | refine awl_nil ?_
    | refine aw_seq ?_
    | refine aw_region ?_
    | refine awl_skip rfl rfl ?_
    | refine aw_skip ?_
    | refine awl_valH hτ rfl rfl rfl ?_
  refine awl_split 10 rfl (fun hb => ?_) (fun hb => ?_)
  all_goals
    repeat first
      | refine awl_val hτ rfl rfl rfl ?_
      | refine awl_nil ?_
      | refine aw_seq ?_
      | refine aw_region ?_
      | refine awl_skip rfl rfl ?_
      | refine aw_skip ?_
      | refine awl_valH hτ rfl rfl rfl ?_
    refine aw_ret ?_
    refine ret_data (.inr rfl) rfl rfl trivial (fun h => nomatch h) ⟨?_, rfl, rfl⟩
  · have h1 : decide (lo ≤ n) = true := hb
    rw [h1]; rfl
  · have h1 : decide (lo ≤ n) = false := hb
    rw [h1]; rfl

theorem long_ok (t1 t2 : Bool) (e1 e2 : List (List D)) : ACall prog false 8 [.d (.sl t1 e1), .d (.sl t2 e2)] [] (fun r o new => r = .d (.bool (decide ((e1.length : Int) > 1048576) || decide ((e2.length : Int) > 1048576))) ∧ o = [] ∧ new = []) := by
  refine acall_of_aw hτ func8 rfl (by simp) (by simp) ?_
  repeat first
    | refine awl_val hτ rfl rfl rfl ?_
    | refine awl_nil ?_
    | refine aw_seq ?_
    | refine aw_region ?_
    | refine awl_skip rfl rfl ?_
    | refine aw_skip ?_
    | refine awl_valH hτ rfl rfl rfl ?_
  refine awl_split 8 rfl (fun hb => ?_) (fun hb => ?_)
  all_goals
    repeat first
      | refine awl_val hτ rfl rfl rfl ?_
      | refine awl_nil ?_
      | refine aw_seq ?_
      | refine aw_region ?_
      | refine awl_skip rfl rfl ?_
      | refine aw_skip ?_
      | refine awl_valH hτ rfl rfl rfl ?_
    refine aw_ret ?_
    refine ret_data (.inr rfl) rfl rfl trivial (fun h => nomatch h) ⟨?_, rfl, rfl⟩
  · have h1 : decide ((e1.length : Int) > 1048576) = true := hb
    rw [h1]; rfl
  · have h1 : decide ((e1.length : Int) > 1048576) = false := hb
    rw [h1]; rfl

def byteD (bs : List UInt8) : List (List D) := bs.map fun b => [.int .u8 b.toNat]
theorem byteD_length (bs : List UInt8) : (byteD bs).length = bs.length := by simp [byteD]
theorem byteD_get {bs : List UInt8} {i : Nat} (h : i < bs.length) : (byteD bs)[i]? = some [.int .u8 (bs.getD i 0).toNat] := by
  simp [byteD, h]
def atS (bs : List UInt8) (i n : Int) : Int := if n ≤ 1 then 0 else if i < bs.length then (((bs.getD i.toNat 0).toNat : Nat) : Int) % n else (i * 37 + 11) % n

theorem byte_wrap (b : UInt8) : IntKind.wrap .i64 (b.toNat : Int) = b.toNat := wrap_id _ (by have := b.toNat_lt; omega) (by have := b.toNat_lt; omega)

theorem at_ok (t : Bool) (bs : List UInt8) (i n : Int) (hi : 0 ≤ i ∧ i < 4294967296) : ACall prog false 9 [.d (.sl t (byteD bs)), .d (.int .i64 i), .d (.int .i64 n)] [] (fun r o new => r = .d (.int .i64 (atS bs i n)) ∧ o = [] ∧ new = []) := by
  refine acall_of_aw hτ func9 rfl (by simp) (by simp) ?_
  repeat first
    | refine awl_val hτ rfl rfl rfl ?_
    | refine awl_nil ?_
    | refine aw_seq ?_
    | refine aw_region ?_
    | refine awl_skip rfl rfl ?_
    | refine aw_skip ?_
    | refine awl_valH hτ rfl rfl rfl ?_
  refine aw_cond rfl (fun hc => ?_) (fun hc => ?_)
  · repeat first
      | refine awl_val hτ rfl rfl rfl ?_
      | refine awl_nil ?_
      | refine aw_seq ?_
      | refine aw_region ?_
      | refine awl_skip rfl rfl ?_
      | refine aw_skip ?_
      | refine awl_valH hτ rfl rfl rfl ?_
    refine aw_ret ?_
    refine ret_data (.inr rfl) rfl rfl trivial (fun h => nomatch h) ⟨?_, rfl, rfl⟩
    simp only [decide_eq_true_eq] at hc
    rw [atS, if_pos hc]
  · repeat first
      | refine awl_val hτ rfl rfl rfl ?_
      | refine awl_nil ?_
      | refine aw_seq ?_
      | refine aw_region ?_
      | refine awl_skip rfl rfl ?_
      | refine aw_skip ?_
      | refine awl_valH hτ rfl rfl rfl ?_
    simp only [decide_eq_false_iff_not] at hc
    refine aw_cond rfl (fun hc2 => ?_) (fun hc2 => ?_)
    · repeat first
        | refine awl_val hτ rfl rfl rfl ?_
        | refine awl_nil ?_
        | refine aw_seq ?_
        | refine aw_region ?_
        | refine awl_skip rfl rfl ?_
        | refine aw_skip ?_
        | refine awl_valH hτ rfl rfl rfl ?_
      simp only [decide_eq_true_eq] at hc2
      rw [byteD_length] at hc2
      refine awl_elem hτ rfl rfl rfl hi.1 (byteD_get (by omega)) rfl ?_
      repeat first
        | refine awl_val hτ rfl rfl rfl ?_
        | refine awl_nil ?_
        | refine aw_seq ?_
        | refine aw_region ?_
        | refine awl_skip rfl rfl ?_
        | refine aw_skip ?_
        | refine awl_valH hτ rfl rfl rfl ?_
      refine awl_need hτ rfl rfl rfl (by omega) ?_
      repeat first
        | refine awl_val hτ rfl rfl rfl ?_
        | refine awl_nil ?_
        | refine aw_seq ?_
        | refine aw_region ?_
        | refine awl_skip rfl rfl ?_
        | refine aw_skip ?_
        | refine awl_valH hτ rfl rfl rfl ?_
      refine aw_ret ?_
      refine ret_data (.inr rfl) rfl rfl trivial (fun h => nomatch h) ⟨?_, rfl, rfl⟩
      rw [atS, if_neg hc, if_pos hc2, byte_wrap, Int.tmod_eq_emod_of_nonneg (by omega)]
    · repeat first
        | refine awl_val hτ rfl rfl rfl ?_
        | refine awl_nil ?_
        | refine aw_seq ?_
        | refine aw_region ?_
        | refine awl_skip rfl rfl ?_
        | refine aw_skip ?_
        | refine awl_valH hτ rfl rfl rfl ?_
      simp only [decide_eq_false_iff_not] at hc2
      rw [byteD_length] at hc2
      refine awl_need hτ rfl rfl rfl (by omega) ?_
      repeat first
        | refine awl_val hτ rfl rfl rfl ?_
        | refine awl_nil ?_
        | refine aw_seq ?_
        | refine aw_region ?_
        | refine awl_skip rfl rfl ?_
        | refine aw_skip ?_
        | refine awl_valH hτ rfl rfl rfl ?_
      refine aw_ret ?_
      refine ret_data (.inr rfl) rfl rfl trivial (fun h => nomatch h) ⟨?_, rfl, rfl⟩
      rw [atS, if_neg hc, if_neg hc2, wrap_id (i * 37) (by omega) (by omega), wrap_id _ (by omega) (by omega), Int.tmod_eq_emod_of_nonneg (by omega)]

def srcO (t : Bool) (bs : List UInt8) (at' : Int) (seed : Int) : AObj := .box [.d (.sl t (byteD bs)), .d (.int .i64 at'), .d (.int .u64 seed)]

theorem from_ok (t : Bool) (bs : List UInt8) : ACall prog false 44 [.d (.sl t (byteD bs))] [] (fun r o new => r = .ptr 0 0 ∧ o = [] ∧ new = [srcO t bs 0 0]) := by
  refine acall_of_aw hτ func44 rfl (by simp) (by simp) ?_
  repeat first
    | refine awl_val hτ rfl rfl rfl ?_
    | refine awl_nil ?_
    | refine aw_seq ?_
    | refine aw_region ?_
    | refine awl_skip rfl rfl ?_
    | refine aw_skip ?_
    | refine awl_valH hτ rfl rfl rfl ?_
  refine aw_ret ?_
  refine ret_objs (.inr rfl) [0] (objs' := []) rfl (by simp) (by simp) rfl trivial rfl rfl (by repeat' first | exact trivial | refine ⟨?_, ?_⟩) (fun h => nomatch h) ⟨rfl, rfl, rfl⟩

def nxB (bs : List UInt8) (i : Int) : Int := if i < bs.length then (((bs.getD i.toNat 0).toNat : Nat) : Int) else 0
def nxSeed (bs : List UInt8) (i seed : Int) : Int := IntKind.wrap .u64 (IntKind.wrap .u64 (IntKind.wrap .u64 (seed * 6364136223846793005) + IntKind.wrap .u64 (nxB bs i)) + 1442695040888963407)
def nxV (bs : List UInt8) (i seed : Int) : Int := if i + 1 ≤ bs.length then nxB bs i else IntKind.wrap .i64 (ibits .and .u64 (nxSeed bs i seed |>.fdiv (2 ^ min (40 : Int).toNat 64)) 255)

theorem next_ok (t : Bool) (bs : List UInt8) (i seed : Int) (hi : 0 ≤ i ∧ i < 4611686018427387904) : ACall prog false 95 [.ptr 0 0] [srcO t bs i seed] (fun r o new => r = .d (.int .i64 (nxV bs i seed)) ∧ o = [srcO t bs (i + 1) (nxSeed bs i seed)] ∧ new = []) := by
  refine acall_of_aw hτ func95 rfl (by simp) (by simp [srcO]) ?_
  repeat first
    | refine awl_val hτ rfl rfl rfl ?_
    | refine awl_nil ?_
    | refine aw_seq ?_
    | refine aw_region ?_
    | refine awl_skip rfl rfl ?_
    | refine aw_skip ?_
    | refine awl_valH hτ rfl rfl rfl ?_
  refine any_start ?_
  refine any_val hτ [0] 0 rfl rfl rfl rfl rfl ?_
  refine any_val hτ [0] 1 rfl rfl rfl rfl rfl ?_
  refine any_val hτ [0] 2 rfl rfl rfl rfl rfl ?_
  refine any_val hτ [0] 3 rfl rfl rfl rfl rfl ?_
  refine any_val hτ [0] 4 rfl rfl rfl rfl rfl ?_
  refine any_val hτ [0] 5 rfl rfl rfl rfl rfl ?_
  refine any_val hτ [0] 6 rfl rfl rfl rfl rfl ?_
  refine any_val hτ [0] 7 rfl rfl rfl rfl rfl ?_
  refine any_val hτ [0] 8 rfl rfl rfl rfl rfl ?_
  refine any_val hτ [0] 9 rfl rfl rfl rfl rfl ?_
  refine any_done mixed (by kernel_rfl) ?_
  repeat first
    | refine awl_val hτ rfl rfl rfl ?_
    | refine awl_nil ?_
    | refine aw_seq ?_
    | refine aw_region ?_
    | refine awl_skip rfl rfl ?_
    | refine aw_skip ?_
    | refine awl_valH hτ rfl rfl rfl ?_
  have wi : IntKind.wrap .i64 (i + 1) = i + 1 := wrap_id _ (by omega) (by omega)
  refine aw_cond rfl (fun hc => ?_) (fun hc => ?_)
  · simp only [decide_eq_true_eq] at hc
    rw [byteD_length] at hc
    refine any_start ?_
    refine any_val hτ [0] 0 rfl rfl rfl rfl rfl ?_
    refine any_val hτ [0] 1 rfl rfl rfl rfl rfl ?_
    refine any_val hτ [0] 2 rfl rfl rfl rfl rfl ?_
    refine any_val hτ [0] 3 rfl rfl rfl rfl rfl ?_
    refine any_val hτ [0] 4 rfl rfl rfl rfl rfl ?_
    refine any_val hτ [0] 5 rfl rfl rfl rfl rfl ?_
    refine any_val hτ [0] 6 rfl rfl rfl rfl rfl ?_
    refine any_val hτ [0] 7 rfl rfl rfl rfl rfl ?_
    refine any_elem hτ [0] 8 rfl rfl rfl rfl rfl hi.1 (byteD_get (by omega)) rfl ?_
    refine any_val hτ [0] 9 rfl rfl rfl rfl rfl ?_
    refine any_val hτ [0] 10 rfl rfl rfl rfl rfl ?_
    refine any_val hτ [0] 11 rfl rfl rfl rfl rfl ?_
    refine any_done mixed (by kernel_rfl) ?_
    repeat first
      | refine awl_val hτ rfl rfl rfl ?_
      | refine awl_nil ?_
      | refine aw_seq ?_
      | refine aw_region ?_
      | refine awl_skip rfl rfl ?_
      | refine aw_skip ?_
      | refine awl_valH hτ rfl rfl rfl ?_
    refine any_start ?_
    refine any_val hτ [0] 0 rfl rfl rfl rfl rfl ?_
    refine any_val hτ [0] 1 rfl rfl rfl rfl rfl ?_
    refine any_val hτ [0] 2 rfl rfl rfl rfl rfl ?_
    refine any_val hτ [0] 3 rfl rfl rfl rfl rfl ?_
    refine any_val hτ [0] 4 rfl rfl rfl rfl rfl ?_
    refine any_val hτ [0] 5 rfl rfl rfl rfl rfl ?_
    refine any_val hτ [0] 6 rfl rfl rfl rfl rfl ?_
    refine any_val hτ [0] 7 rfl rfl rfl rfl rfl ?_
    refine any_val hτ [0] 8 rfl rfl rfl rfl rfl ?_
    refine any_val hτ [0] 9 rfl rfl rfl rfl rfl ?_
    refine any_done mixed (by kernel_rfl) ?_
    repeat first
      | refine awl_val hτ rfl rfl rfl ?_
      | refine awl_nil ?_
      | refine aw_seq ?_
      | refine aw_region ?_
      | refine awl_skip rfl rfl ?_
      | refine aw_skip ?_
      | refine awl_valH hτ rfl rfl rfl ?_
    refine aw_cond rfl (fun hd => ?_) (fun hd => ?_)
    · repeat first
        | refine awl_val hτ rfl rfl rfl ?_
        | refine awl_nil ?_
        | refine aw_seq ?_
        | refine aw_region ?_
        | refine awl_skip rfl rfl ?_
        | refine aw_skip ?_
        | refine awl_valH hτ rfl rfl rfl ?_
      refine aw_ret ?_
      have hd' : i + 1 ≤ bs.length := by
        simp only [decide_eq_true_eq] at hd
        rw [byteD_length, wi] at hd; exact hd
      refine ret_objs (.inr rfl) [] (new := []) (objs' := [_]) rfl (by simp) (by simp) rfl trivial rfl rfl (by repeat' first | exact trivial | refine ⟨?_, ?_⟩) (fun h => nomatch h) ⟨?_, ?_, rfl⟩
      · rw [nxV, if_pos hd', nxB, if_pos hc]; rw [byte_wrap]
      · rw [srcO, wi, nxSeed, nxB, if_pos hc]; rw [byte_wrap]
    · repeat first
        | refine awl_val hτ rfl rfl rfl ?_
        | refine awl_nil ?_
        | refine aw_seq ?_
        | refine aw_region ?_
        | refine awl_skip rfl rfl ?_
        | refine aw_skip ?_
        | refine awl_valH hτ rfl rfl rfl ?_
      refine awl_need hτ rfl rfl rfl (by decide) ?_
      repeat first
        | refine awl_val hτ rfl rfl rfl ?_
        | refine awl_nil ?_
        | refine aw_seq ?_
        | refine aw_region ?_
        | refine awl_skip rfl rfl ?_
        | refine aw_skip ?_
        | refine awl_valH hτ rfl rfl rfl ?_
      refine aw_ret ?_
      have hd' : ¬ i + 1 ≤ bs.length := by
        simp only [decide_eq_false_iff_not] at hd
        rw [byteD_length, wi] at hd; exact hd
      refine ret_objs (.inr rfl) [] (new := []) (objs' := [_]) rfl (by simp) (by simp) rfl trivial rfl rfl (by repeat' first | exact trivial | refine ⟨?_, ?_⟩) (fun h => nomatch h) ⟨?_, ?_, rfl⟩
      · rw [nxV, if_neg hd', nxSeed, nxB, if_pos hc]; rw [byte_wrap]; rfl
      · rw [srcO, wi, nxSeed, nxB, if_pos hc]; rw [byte_wrap]
  · simp only [decide_eq_false_iff_not] at hc
    rw [byteD_length] at hc
    repeat first
      | refine awl_val hτ rfl rfl rfl ?_
      | refine awl_nil ?_
      | refine aw_seq ?_
      | refine aw_region ?_
      | refine awl_skip rfl rfl ?_
      | refine aw_skip ?_
      | refine awl_valH hτ rfl rfl rfl ?_
    refine any_start ?_
    refine any_val hτ [0] 0 rfl rfl rfl rfl rfl ?_
    refine any_val hτ [0] 1 rfl rfl rfl rfl rfl ?_
    refine any_val hτ [0] 2 rfl rfl rfl rfl rfl ?_
    refine any_val hτ [0] 3 rfl rfl rfl rfl rfl ?_
    refine any_val hτ [0] 4 rfl rfl rfl rfl rfl ?_
    refine any_val hτ [0] 5 rfl rfl rfl rfl rfl ?_
    refine any_val hτ [0] 6 rfl rfl rfl rfl rfl ?_
    refine any_val hτ [0] 7 rfl rfl rfl rfl rfl ?_
    refine any_val hτ [0] 8 rfl rfl rfl rfl rfl ?_
    refine any_val hτ [0] 9 rfl rfl rfl rfl rfl ?_
    refine any_done mixed (by kernel_rfl) ?_
    repeat first
      | refine awl_val hτ rfl rfl rfl ?_
      | refine awl_nil ?_
      | refine aw_seq ?_
      | refine aw_region ?_
      | refine awl_skip rfl rfl ?_
      | refine aw_skip ?_
      | refine awl_valH hτ rfl rfl rfl ?_
    refine aw_cond rfl (fun hd => ?_) (fun hd => ?_)
    · repeat first
        | refine awl_val hτ rfl rfl rfl ?_
        | refine awl_nil ?_
        | refine aw_seq ?_
        | refine aw_region ?_
        | refine awl_skip rfl rfl ?_
        | refine aw_skip ?_
        | refine awl_valH hτ rfl rfl rfl ?_
      refine aw_ret ?_
      have hd' : i + 1 ≤ bs.length := by
        simp only [decide_eq_true_eq] at hd
        rw [byteD_length, wi] at hd; exact hd
      refine ret_objs (.inr rfl) [] (new := []) (objs' := [_]) rfl (by simp) (by simp) rfl trivial rfl rfl (by repeat' first | exact trivial | refine ⟨?_, ?_⟩) (fun h => nomatch h) ⟨?_, ?_, rfl⟩
      · rw [nxV, if_pos hd', nxB, if_neg hc]
      · rw [srcO, wi, nxSeed, nxB, if_neg hc]
    · repeat first
        | refine awl_val hτ rfl rfl rfl ?_
        | refine awl_nil ?_
        | refine aw_seq ?_
        | refine aw_region ?_
        | refine awl_skip rfl rfl ?_
        | refine aw_skip ?_
        | refine awl_valH hτ rfl rfl rfl ?_
      refine awl_need hτ rfl rfl rfl (by decide) ?_
      repeat first
        | refine awl_val hτ rfl rfl rfl ?_
        | refine awl_nil ?_
        | refine aw_seq ?_
        | refine aw_region ?_
        | refine awl_skip rfl rfl ?_
        | refine aw_skip ?_
        | refine awl_valH hτ rfl rfl rfl ?_
      refine aw_ret ?_
      have hd' : ¬ i + 1 ≤ bs.length := by
        simp only [decide_eq_false_iff_not] at hd
        rw [byteD_length, wi] at hd; exact hd
      refine ret_objs (.inr rfl) [] (new := []) (objs' := [_]) rfl (by simp) (by simp) rfl trivial rfl rfl (by repeat' first | exact trivial | refine ⟨?_, ?_⟩) (fun h => nomatch h) ⟨?_, ?_, rfl⟩
      · rw [nxV, if_neg hd', nxSeed, nxB, if_neg hc]; rfl
      · rw [srcO, wi, nxSeed, nxB, if_neg hc]

/-- What a source draws below 'n'. -/
def pkX (bs : List UInt8) (i seed n : Int) : Int := if n > 200 then IntKind.wrap .i64 (IntKind.wrap .i64 (nxV bs i seed * 256) + nxV bs (i + 1) (nxSeed bs i seed)) else nxV bs i seed
def pkV (bs : List UInt8) (i seed n : Int) : Int := if n ≤ 1 then 0 else (pkX bs i seed n).tmod n
def pkI (bs : List UInt8) (i seed n : Int) : Int := if n ≤ 1 then i else if n > 200 then i + 1 + 1 else i + 1
def pkSeed (bs : List UInt8) (i seed n : Int) : Int := if n ≤ 1 then seed else if n > 200 then nxSeed bs (i + 1) (nxSeed bs i seed) else nxSeed bs i seed

theorem pick_ok (t : Bool) (bs : List UInt8) (i seed n : Int) (hi : 0 ≤ i ∧ i < 1152921504606846976) : ACall prog false 52 [.ptr 0 0, .d (.int .i64 n)] [srcO t bs i seed] (fun r o new => r = .d (.int .i64 (pkV bs i seed n)) ∧ o = [srcO t bs (pkI bs i seed n) (pkSeed bs i seed n)] ∧ new = []) := by
  refine acall_of_aw hτ func52 rfl (by simp) (by simp [srcO]) ?_
  repeat first
    | refine awl_val hτ rfl rfl rfl ?_
    | refine awl_nil ?_
    | refine aw_seq ?_
    | refine aw_region ?_
    | refine awl_skip rfl rfl ?_
    | refine aw_skip ?_
    | refine awl_valH hτ rfl rfl rfl ?_
  refine aw_cond rfl (fun hc => ?_) (fun hc => ?_)
  · simp only [decide_eq_true_eq] at hc
    repeat first
      | refine awl_val hτ rfl rfl rfl ?_
      | refine awl_nil ?_
      | refine aw_seq ?_
      | refine aw_region ?_
      | refine awl_skip rfl rfl ?_
      | refine aw_skip ?_
      | refine awl_valH hτ rfl rfl rfl ?_
    refine aw_ret ?_
    refine ret_objs (.inr rfl) [] (new := []) (objs' := [_]) rfl (by simp) (by simp) rfl trivial rfl rfl (by repeat' first | exact trivial | refine ⟨?_, ?_⟩) (fun h => nomatch h) ⟨?_, ?_, rfl⟩
    · rw [pkV, if_pos hc]
    · rw [pkI, pkSeed, if_pos hc, if_pos hc]; rfl
  · simp only [decide_eq_false_iff_not] at hc
    repeat first
      | refine awl_val hτ rfl rfl rfl ?_
      | refine awl_nil ?_
      | refine aw_seq ?_
      | refine aw_region ?_
      | refine awl_skip rfl rfl ?_
      | refine aw_skip ?_
      | refine awl_valH hτ rfl rfl rfl ?_
    refine awl_callP hτ false [0] rfl rfl rfl (enterOk func95 rfl rfl) rfl rfl (by simp) (by repeat' first | exact trivial | refine ⟨?_, ?_⟩) (by repeat' first | exact trivial | refine ⟨?_, ?_⟩) (next_ok t bs i seed (by omega)) ?_
    rintro r o new ⟨rfl, rfl, rfl⟩ -
    repeat first
      | refine awl_val hτ rfl rfl rfl ?_
      | refine awl_nil ?_
      | refine aw_seq ?_
      | refine aw_region ?_
      | refine awl_skip rfl rfl ?_
      | refine aw_skip ?_
      | refine awl_valH hτ rfl rfl rfl ?_
    refine aw_cond rfl (fun hd => ?_) (fun hd => ?_)
    · simp only [decide_eq_true_eq] at hd
      repeat first
        | refine awl_val hτ rfl rfl rfl ?_
        | refine awl_nil ?_
        | refine aw_seq ?_
        | refine aw_region ?_
        | refine awl_skip rfl rfl ?_
        | refine aw_skip ?_
        | refine awl_valH hτ rfl rfl rfl ?_
      refine awl_callP hτ false [0] rfl rfl rfl (enterOk func95 rfl rfl) rfl rfl (by simp) (by repeat' first | exact trivial | refine ⟨?_, ?_⟩) (by repeat' first | exact trivial | refine ⟨?_, ?_⟩) (next_ok t bs (i + 1) (nxSeed bs i seed) (by omega)) ?_
      rintro r o new ⟨rfl, rfl, rfl⟩ -
      repeat first
        | refine awl_val hτ rfl rfl rfl ?_
        | refine awl_nil ?_
        | refine aw_seq ?_
        | refine aw_region ?_
        | refine awl_skip rfl rfl ?_
        | refine aw_skip ?_
        | refine awl_valH hτ rfl rfl rfl ?_
      refine awl_need hτ rfl rfl rfl (by omega) ?_
      repeat first
        | refine awl_val hτ rfl rfl rfl ?_
        | refine awl_nil ?_
        | refine aw_seq ?_
        | refine aw_region ?_
        | refine awl_skip rfl rfl ?_
        | refine aw_skip ?_
        | refine awl_valH hτ rfl rfl rfl ?_
      refine aw_ret ?_
      refine ret_objs (.inr rfl) [] (new := []) (objs' := [_]) rfl (by simp) (by simp) rfl trivial rfl rfl (by repeat' first | exact trivial | refine ⟨?_, ?_⟩) (fun h => nomatch h) ⟨?_, ?_, rfl⟩
      · rw [pkV, if_neg hc, pkX, if_pos hd]
      · rw [pkI, pkSeed, if_neg hc, if_neg hc, if_pos hd, if_pos hd]; rfl
    · simp only [decide_eq_false_iff_not] at hd
      repeat first
        | refine awl_val hτ rfl rfl rfl ?_
        | refine awl_nil ?_
        | refine aw_seq ?_
        | refine aw_region ?_
        | refine awl_skip rfl rfl ?_
        | refine aw_skip ?_
        | refine awl_valH hτ rfl rfl rfl ?_
      refine awl_need hτ rfl rfl rfl (by omega) ?_
      repeat first
        | refine awl_val hτ rfl rfl rfl ?_
        | refine awl_nil ?_
        | refine aw_seq ?_
        | refine aw_region ?_
        | refine awl_skip rfl rfl ?_
        | refine aw_skip ?_
        | refine awl_valH hτ rfl rfl rfl ?_
      refine aw_ret ?_
      refine ret_objs (.inr rfl) [] (new := []) (objs' := [_]) rfl (by simp) (by simp) rfl trivial rfl rfl (by repeat' first | exact trivial | refine ⟨?_, ?_⟩) (fun h => nomatch h) ⟨?_, ?_, rfl⟩
      · rw [pkV, if_neg hc, pkX, if_neg hd]
      · rw [pkI, pkSeed, if_neg hc, if_neg hc, if_neg hd, if_neg hd]; rfl
end Go.Proofs.Ytolggocnbakokaa.AWN

namespace Go.Proofs.Ytolggocnbakokaa.AWN
open Go Go.Proofs.Try

theorem pow_le9 {j : Nat} (h : j ≤ 9) : 10 ^ j ≤ 1000000000 := Nat.le_trans (Nat.pow_le_pow_right (by decide) h) (by decide)
theorem pow_step {n k : Nat} (hn : n ≤ 9) (hk : k ≤ n) (hk0 : 0 < k) : IntKind.wrap .i64 (((10 ^ (n - k) : Nat) : Int) * 10) = ((10 ^ (n - (k - 1)) : Nat) : Int) := by
  have e : n - (k - 1) = n - k + 1 := by omega
  have h1 : 10 ^ (n - k + 1) ≤ 1000000000 := pow_le9 (by omega)
  rw [Nat.pow_succ] at h1
  rw [e, Nat.pow_succ]
  generalize 10 ^ (n - k) = q at *
  rw [wrap_id _ (by omega) (by omega)]
  omega

theorem power_ok (n : Nat) (hn : n ≤ 9) : ACall prog false 55 [.d (.int .i64 n)] [] (fun r o new => r = .d (.int .i64 (10 ^ n : Nat)) ∧ o = [] ∧ new = []) := by
  refine acall_of_aw hτ func55 rfl (by simp) (by simp) ?_
  repeat first
    | refine awl_val hτ rfl rfl rfl ?_
    | refine awl_nil ?_
    | refine aw_seq ?_
    | refine aw_region ?_
    | refine awl_skip rfl rfl ?_
    | refine aw_skip ?_
    | refine awl_valH hτ rfl rfl rfl ?_
  refine aw_block ?_
  refine aw_loop (ι := Int × Int) (fun x => St.of [(0, .d (.int .i64 x.1)), (3, .d (.int .i64 x.2))] [] f55.ntmps 0) (fun x => ∃ k : Nat, k ≤ n ∧ x.1 = k ∧ x.2 = (10 ^ (n - k) : Nat)) (fun x => x.1.toNat) (n, 1) ⟨n, Nat.le_refl _, rfl, by simp⟩
    (weak_ofP [] rfl (by simp) rfl trivial ⟨rfl, trivial, rfl, trivial, trivial⟩) ?_
  rintro ⟨a, p⟩ ⟨k, hk, rfl, rfl⟩
  repeat first
    | refine awl_val hτ rfl rfl rfl ?_
    | refine awl_nil ?_
    | refine aw_seq ?_
    | refine aw_region ?_
    | refine awl_skip rfl rfl ?_
    | refine aw_skip ?_
    | refine awl_valH hτ rfl rfl rfl ?_
  refine aw_cond rfl (fun hc => ?_) (fun hc => ?_)
  · repeat first
      | refine awl_val hτ rfl rfl rfl ?_
      | refine awl_nil ?_
      | refine aw_seq ?_
      | refine aw_region ?_
      | refine awl_skip rfl rfl ?_
      | refine aw_skip ?_
      | refine awl_valH hτ rfl rfl rfl ?_
    refine aw_block ?_
    repeat first
      | refine awl_val hτ rfl rfl rfl ?_
      | refine awl_nil ?_
      | refine aw_seq ?_
      | refine aw_region ?_
      | refine awl_skip rfl rfl ?_
      | refine aw_skip ?_
      | refine awl_valH hτ rfl rfl rfl ?_
    have hk0 : 0 < k := by
      simp only [decide_eq_true_eq] at hc
      omega
    refine ⟨(_, _), ⟨k - 1, by omega, ?_, ?_⟩, ?_, weak_ofP [] rfl (by simp) rfl trivial ⟨rfl, trivial, rfl, trivial, trivial⟩⟩
    · show IntKind.wrap .i64 ((k : Int) - 1) = ((k - 1 : Nat) : Int)
      rw [wrap_id _ (by omega) (by omega)]; omega
    · show IntKind.wrap .i64 (((10 ^ (n - k) : Nat) : Int) * 10) = ((10 ^ (n - (k - 1)) : Nat) : Int)
      exact pow_step hn hk hk0
    · show (IntKind.wrap .i64 ((k : Int) - 1)).toNat < (k : Int).toNat
      rw [wrap_id _ (by omega) (by omega)]; omega
  · refine aw_exit ?_
    repeat first
      | refine awl_val hτ rfl rfl rfl ?_
      | refine awl_nil ?_
      | refine aw_seq ?_
      | refine aw_region ?_
      | refine awl_skip rfl rfl ?_
      | refine aw_skip ?_
      | refine awl_valH hτ rfl rfl rfl ?_
    refine aw_ret ?_
    refine ret_data (.inr rfl) rfl rfl trivial (fun h => nomatch h) ⟨?_, rfl, rfl⟩
    have hk0 : k = 0 := by
      simp only [decide_eq_false_iff_not] at hc
      omega
    subst hk0; rfl

def intD (rs : List Int) : List (List D) := rs.map fun n => [.int .i64 n]
theorem intD_length (rs : List Int) : (intD rs).length = rs.length := by simp [intD]
theorem intD_get {rs : List Int} {i : Nat} (h : i < rs.length) : (intD rs)[i]? = some [.int .i64 (rs.getD i 0)] := by simp [intD, h]
def mtV (dg : Int) (t : Bool) (rs : List Int) : V := .agg [.d (.int .i64 dg), .d (.sl t (intD rs))]
def mtO (dg : Int) (t : Bool) (rs : List Int) : AObj := .box [.d (.int .i64 dg), .d (.sl t (intD rs))]

theorem around_ok (n : Nat) (hn : n ≤ 9) (t : Bool) (rs : List Int) : ACall prog false 63 [.ptr 0 0] [mtO n t rs] (fun r o new => r = .d (.int .i64 (10 ^ n : Nat)) ∧ o = [mtO n t rs] ∧ new = []) := by
  refine acall_of_aw hτ func63 rfl (by simp) (by simp [mtO]) ?_
  repeat first
    | refine awl_val hτ rfl rfl rfl ?_
    | refine awl_nil ?_
    | refine aw_seq ?_
    | refine aw_region ?_
    | refine awl_skip rfl rfl ?_
    | refine aw_skip ?_
    | refine awl_valH hτ rfl rfl rfl ?_
  refine aw_block ?_
  refine aw_loop (ι := Int × Int) (fun x => St.of [(3, .d (.int .i64 x.1)), (7, .d (.int .i64 n)), (8, .d (.int .i64 x.2))] [mtO n t rs] f63.ntmps 1) (fun x => ∃ k : Nat, k ≤ n ∧ x.2 = k ∧ x.1 = (10 ^ k : Nat)) (fun x => n - x.2.toNat) (1, 0) ⟨0, Nat.zero_le _, rfl, rfl⟩
    (weak_ofP [0] rfl (by simp) rfl (by repeat' first | exact trivial | refine ⟨?_, ?_⟩) ⟨rfl, trivial, rfl, trivial, rfl, trivial, trivial⟩) ?_
  rintro ⟨p, a⟩ ⟨k, hk, rfl, rfl⟩
  repeat first
    | refine awl_val hτ rfl rfl rfl ?_
    | refine awl_nil ?_
    | refine aw_seq ?_
    | refine aw_region ?_
    | refine awl_skip rfl rfl ?_
    | refine aw_skip ?_
    | refine awl_valH hτ rfl rfl rfl ?_
  refine aw_cond rfl (fun hc => ?_) (fun hc => ?_)
  · repeat first
      | refine awl_val hτ rfl rfl rfl ?_
      | refine awl_nil ?_
      | refine aw_seq ?_
      | refine aw_region ?_
      | refine awl_skip rfl rfl ?_
      | refine aw_skip ?_
      | refine awl_valH hτ rfl rfl rfl ?_
    refine aw_block ?_
    repeat first
      | refine awl_val hτ rfl rfl rfl ?_
      | refine awl_nil ?_
      | refine aw_seq ?_
      | refine aw_region ?_
      | refine awl_skip rfl rfl ?_
      | refine aw_skip ?_
      | refine awl_valH hτ rfl rfl rfl ?_
    have hk0 : k < n := by
      simp only [decide_eq_true_eq] at hc
      omega
    refine ⟨(_, _), ⟨k + 1, by omega, ?_, ?_⟩, ?_, weak_ofP [0] rfl (by simp) rfl (by repeat' first | exact trivial | refine ⟨?_, ?_⟩) ⟨rfl, trivial, rfl, trivial, rfl, trivial, trivial⟩⟩
    · show IntKind.wrap .i64 ((k : Int) + 1) = ((k + 1 : Nat) : Int)
      rw [wrap_id _ (by omega) (by omega)]; omega
    · show IntKind.wrap .i64 (((10 ^ k : Nat) : Int) * 10) = ((10 ^ (k + 1) : Nat) : Int)
      have := pow_step (n := k + 1) (k := 1) (by omega) (by omega) (by omega)
      simpa using this
    · show n - (IntKind.wrap .i64 ((k : Int) + 1)).toNat < n - (k : Int).toNat
      rw [wrap_id _ (by omega) (by omega)]; omega
  · refine aw_exit ?_
    repeat first
      | refine awl_val hτ rfl rfl rfl ?_
      | refine awl_nil ?_
      | refine aw_seq ?_
      | refine aw_region ?_
      | refine awl_skip rfl rfl ?_
      | refine aw_skip ?_
      | refine awl_valH hτ rfl rfl rfl ?_
    refine aw_ret ?_
    have hk0 : k = n := by
      simp only [decide_eq_false_iff_not] at hc
      omega
    refine ret_objs (.inr rfl) [] (new := []) (objs' := [_]) rfl (by simp) (by simp) rfl trivial rfl rfl (by repeat' first | exact trivial | refine ⟨?_, ?_⟩) (fun h => nomatch h) ⟨?_, rfl, rfl⟩
    subst hk0; rfl
end Go.Proofs.Ytolggocnbakokaa.AWN

namespace Go.Proofs.Ytolggocnbakokaa.AWN
open Go Go.Proofs.Try

def badR (dg : Nat) (n : Int) : Bool := !(decide (0 ≤ n) && decide (n ≤ (10 ^ dg : Nat) - 1))

theorem valid1_ok (dg : Nat) (hn : dg ≤ 9) (t : Bool) (rs : List Int) (n : Int) : ACall prog false 62 [.d (.int .i64 n), .ptr 0 0] [mtO dg t rs] (fun r o new => r = .d (.bool (badR dg n)) ∧ o = [mtO dg t rs] ∧ new = []) := by
  refine acall_of_aw hτ func62 rfl (by simp) (by simp [mtO]) ?_
  repeat first
    | refine awl_val hτ rfl rfl rfl ?_
    | refine awl_nil ?_
    | refine aw_seq ?_
    | refine aw_region ?_
    | refine awl_skip rfl rfl ?_
    | refine aw_skip ?_
    | refine awl_valH hτ rfl rfl rfl ?_
  refine awl_callP hτ false [0] rfl rfl rfl (enterOk func63 rfl rfl) rfl rfl (by simp) (by repeat' first | exact trivial | refine ⟨?_, ?_⟩) (by repeat' first | exact trivial | refine ⟨?_, ?_⟩) (around_ok dg hn t rs) ?_
  rintro r o new ⟨rfl, rfl, rfl⟩ -
  repeat first
    | refine awl_val hτ rfl rfl rfl ?_
    | refine awl_nil ?_
    | refine aw_seq ?_
    | refine aw_region ?_
    | refine awl_skip rfl rfl ?_
    | refine aw_skip ?_
    | refine awl_valH hτ rfl rfl rfl ?_
  refine awl_callP hτ false [] rfl rfl rfl (enterOk func60 rfl rfl) rfl rfl (by simp) (by repeat' first | exact trivial | refine ⟨?_, ?_⟩) (by repeat' first | exact trivial | refine ⟨?_, ?_⟩) (in_ok n 0 _) ?_
  rintro r o new ⟨rfl, rfl, rfl⟩ -
  repeat first
    | refine awl_val hτ rfl rfl rfl ?_
    | refine awl_nil ?_
    | refine aw_seq ?_
    | refine aw_region ?_
    | refine awl_skip rfl rfl ?_
    | refine aw_skip ?_
    | refine awl_valH hτ rfl rfl rfl ?_
  refine aw_ret ?_
  refine ret_objs (.inr rfl) [] (new := []) (objs' := [_]) rfl (by simp) (by simp) rfl trivial rfl rfl (by repeat' first | exact trivial | refine ⟨?_, ?_⟩) (fun h => nomatch h) ⟨?_, rfl, rfl⟩
  have h1 : 10 ^ dg ≤ 1000000000 := pow_le9 hn
  have hw : IntKind.wrap .i64 (((10 ^ dg : Nat) : Int) - 1) = ((10 ^ dg : Nat) : Int) - 1 := by
    generalize 10 ^ dg = q at *
    exact wrap_id _ (by omega) (by omega)
  show V.d (D.bool !(decide (0 ≤ n) && decide (n ≤ IntKind.wrap .i64 (((10 ^ dg : Nat) : Int) - 1)))) = _
  rw [hw]; rfl

def idxF (p : Int → Bool) : List Int → Int → Int
  | [], _ => -1
  | n :: r, i => if p n then i else idxF p r (i + 1)
theorem idxF_pos {p : Int → Bool} : ∀ {l : List Int} {i : Int}, 0 ≤ i → decide (idxF p l i ≥ 0) = l.any p
  | [], _, _ => rfl
  | n :: r, i, h => by
    unfold idxF
    by_cases hp : p n = true
    · simp [hp, h]
    · rw [if_neg hp, idxF_pos (by omega)]; simp [hp]

theorem drop_cons {rs : List Int} {i : Nat} (h : i < rs.length) : rs.drop i = rs.getD i 0 :: rs.drop (i + 1) := by
  rw [List.drop_eq_getElem_cons h]; simp [h]

theorem index_ok (kf : Nat) (hkf : EnterOk prog kf) (p : Int → Bool) (dg : Nat) (t t' : Bool) (rs ms : List Int) (hl : rs.length < 1000000000) (hf : ∀ n, ACall prog false kf [.d (.int .i64 n), .ptr 0 0] [mtO dg t ms] (fun r o new => r = .d (.bool (p n)) ∧ o = [mtO dg t ms] ∧ new = [])) :
    ACall prog false 97 [.d (.sl t' (intD rs)), .func kf [] [.ptr 0 0]] [mtO dg t ms] (fun r o new => r = .d (.int .i64 (idxF p rs 0)) ∧ o = [mtO dg t ms] ∧ new = []) := by
  refine acall_of_aw hτ func97 rfl (by simp) (by simp [mtO]) ?_
  repeat first
    | refine awl_val hτ rfl rfl rfl ?_
    | refine awl_nil ?_
    | refine aw_seq ?_
    | refine aw_region ?_
    | refine awl_skip rfl rfl ?_
    | refine aw_skip ?_
    | refine awl_valH hτ rfl rfl rfl ?_
  refine aw_block ?_
  refine aw_loop (ι := Int) (fun x => St.of [(0, .d (.sl t' (intD rs))), (1, .func kf [] [.ptr 0 0]), (7, .d (.int .i64 (intD rs).length)), (8, .d (.int .i64 x))] [mtO dg t ms] f97.ntmps 1) (fun x => ∃ k : Nat, k ≤ rs.length ∧ x = k ∧ idxF p rs 0 = idxF p (rs.drop k) k) (fun x => rs.length - x.toNat) 0 ⟨0, Nat.zero_le _, rfl, rfl⟩
    (weak_ofP [0] rfl (by simp) rfl (by repeat' first | exact trivial | refine ⟨?_, ?_⟩) ⟨rfl, trivial, rfl, (by repeat' first | exact trivial | refine ⟨?_, ?_⟩), rfl, trivial, rfl, trivial, trivial⟩) ?_
  rintro _ ⟨k, hk, rfl, hi⟩
  repeat first
    | refine awl_val hτ rfl rfl rfl ?_
    | refine awl_nil ?_
    | refine aw_seq ?_
    | refine aw_region ?_
    | refine awl_skip rfl rfl ?_
    | refine aw_skip ?_
    | refine awl_valH hτ rfl rfl rfl ?_
  refine aw_cond rfl (fun hc => ?_) (fun hc => ?_)
  · simp only [decide_eq_true_eq] at hc
    rw [intD_length] at hc
    repeat first
      | refine awl_val hτ rfl rfl rfl ?_
      | refine awl_nil ?_
      | refine aw_seq ?_
      | refine aw_region ?_
      | refine awl_skip rfl rfl ?_
      | refine aw_skip ?_
      | refine awl_valH hτ rfl rfl rfl ?_
    refine aw_block ?_
    repeat first
      | refine awl_val hτ rfl rfl rfl ?_
      | refine awl_nil ?_
      | refine aw_seq ?_
      | refine aw_region ?_
      | refine awl_skip rfl rfl ?_
      | refine aw_skip ?_
      | refine awl_valH hτ rfl rfl rfl ?_
    refine awl_elem hτ rfl rfl rfl (by omega) (intD_get (by omega)) rfl ?_
    repeat first
      | refine awl_val hτ rfl rfl rfl ?_
      | refine awl_nil ?_
      | refine aw_seq ?_
      | refine aw_region ?_
      | refine awl_skip rfl rfl ?_
      | refine aw_skip ?_
      | refine awl_valH hτ rfl rfl rfl ?_
    refine awl_callP hτ false [0] rfl rfl rfl hkf rfl rfl (by simp) (by repeat' first | exact trivial | refine ⟨?_, ?_⟩) (by repeat' first | exact trivial | refine ⟨?_, ?_⟩) (hf _) ?_
    rintro r o new ⟨rfl, rfl, rfl⟩ -
    repeat first
      | refine awl_val hτ rfl rfl rfl ?_
      | refine awl_nil ?_
      | refine aw_seq ?_
      | refine aw_region ?_
      | refine awl_skip rfl rfl ?_
      | refine aw_skip ?_
      | refine awl_valH hτ rfl rfl rfl ?_
    refine aw_cond rfl (fun hd => ?_) (fun hd => ?_)
    · repeat first
        | refine awl_val hτ rfl rfl rfl ?_
        | refine awl_nil ?_
        | refine aw_seq ?_
        | refine aw_region ?_
        | refine awl_skip rfl rfl ?_
        | refine aw_skip ?_
        | refine awl_valH hτ rfl rfl rfl ?_
      refine aw_ret ?_
      refine ret_objs (.inr rfl) [] (new := []) (objs' := [_]) rfl (by simp) (by simp) rfl trivial rfl rfl (by repeat' first | exact trivial | refine ⟨?_, ?_⟩) (fun h => nomatch h) ⟨?_, rfl, rfl⟩
      have hd' : p (rs.getD k 0) = true := hd
      rw [hi, drop_cons (by omega), idxF, if_pos hd']
    · repeat first
        | refine awl_val hτ rfl rfl rfl ?_
        | refine awl_nil ?_
        | refine aw_seq ?_
        | refine aw_region ?_
        | refine awl_skip rfl rfl ?_
        | refine aw_skip ?_
        | refine awl_valH hτ rfl rfl rfl ?_
      refine ⟨_, ⟨k + 1, by omega, ?_, ?_⟩, ?_, weak_ofP [0] rfl (by simp) rfl (by repeat' first | exact trivial | refine ⟨?_, ?_⟩) ⟨rfl, trivial, rfl, (by repeat' first | exact trivial | refine ⟨?_, ?_⟩), rfl, trivial, rfl, trivial, trivial⟩⟩
      · show IntKind.wrap .i64 ((k : Int) + 1) = ((k + 1 : Nat) : Int)
        rw [wrap_id _ (by omega) (by omega)]; omega
      · have hd' : p (rs.getD k 0) = false := hd
        rw [hi, drop_cons (by omega), idxF, if_neg (by rw [hd']; exact Bool.false_ne_true)]
        congr 1
      · show rs.length - (IntKind.wrap .i64 ((k : Int) + 1)).toNat < rs.length - (k : Int).toNat
        rw [wrap_id _ (by omega) (by omega)]; omega
  · refine aw_exit ?_
    simp only [decide_eq_false_iff_not] at hc
    rw [intD_length] at hc
    repeat first
      | refine awl_val hτ rfl rfl rfl ?_
      | refine awl_nil ?_
      | refine aw_seq ?_
      | refine aw_region ?_
      | refine awl_skip rfl rfl ?_
      | refine aw_skip ?_
      | refine awl_valH hτ rfl rfl rfl ?_
    refine aw_ret ?_
    refine ret_objs (.inr rfl) [] (new := []) (objs' := [_]) rfl (by simp) (by simp) rfl trivial rfl rfl (by repeat' first | exact trivial | refine ⟨?_, ?_⟩) (fun h => nomatch h) ⟨?_, rfl, rfl⟩
    have : rs.drop k = [] := List.drop_eq_nil_iff.2 (by omega)
    rw [hi, this]; rfl

theorem contains_ok (kf : Nat) (hkf : EnterOk prog kf) (p : Int → Bool) (dg : Nat) (t t' : Bool) (rs ms : List Int) (hl : rs.length < 1000000000) (hf : ∀ n, ACall prog false kf [.d (.int .i64 n), .ptr 0 0] [mtO dg t ms] (fun r o new => r = .d (.bool (p n)) ∧ o = [mtO dg t ms] ∧ new = [])) :
    ACall prog false 61 [.d (.sl t' (intD rs)), .func kf [] [.ptr 0 0]] [mtO dg t ms] (fun r o new => r = .d (.bool (rs.any p)) ∧ o = [mtO dg t ms] ∧ new = []) := by
  refine acall_of_aw hτ func61 rfl (by simp) (by simp [mtO]) ?_
  repeat first
    | refine awl_val hτ rfl rfl rfl ?_
    | refine awl_nil ?_
    | refine aw_seq ?_
    | refine aw_region ?_
    | refine awl_skip rfl rfl ?_
    | refine aw_skip ?_
    | refine awl_valH hτ rfl rfl rfl ?_
  refine awl_callP hτ false [0] rfl rfl rfl (enterOk func97 rfl rfl) rfl rfl (by simp) (by repeat' first | exact trivial | refine ⟨?_, ?_⟩) (by repeat' first | exact trivial | refine ⟨?_, ?_⟩) (index_ok kf hkf p dg t t' rs ms hl hf) ?_
  rintro r o new ⟨rfl, rfl, rfl⟩ -
  repeat first
    | refine awl_val hτ rfl rfl rfl ?_
    | refine awl_nil ?_
    | refine aw_seq ?_
    | refine aw_region ?_
    | refine awl_skip rfl rfl ?_
    | refine aw_skip ?_
    | refine awl_valH hτ rfl rfl rfl ?_
  refine aw_ret ?_
  refine ret_objs (.inr rfl) [] (new := []) (objs' := [_]) rfl (by simp) (by simp) rfl trivial rfl rfl (by repeat' first | exact trivial | refine ⟨?_, ?_⟩) (fun h => nomatch h) ⟨?_, rfl, rfl⟩
  rw [← idxF_pos (Int.le_refl 0)]

def validM (dg : Nat) (rs : List Int) : Bool := (decide ((1 : Int) ≤ dg) && decide ((dg : Int) ≤ 9)) && !decide ((rs.length : Int) > 256) && !rs.any (badR dg)

/-- A meter of few digits and few readings. -/
theorem valid_ok (dg : Nat) (hn : dg ≤ 9) (t : Bool) (rs : List Int) (hl : rs.length < 1000000000) : ACall prog false 26 [mtV dg t rs] [] (fun r o new => r = .d (.bool (validM dg rs)) ∧ o = [] ∧ new = []) := by
  refine acall_of_aw hτ func26 rfl (by simp) (by simp) ?_
  repeat first
    | refine awl_val hτ rfl rfl rfl ?_
    | refine awl_nil ?_
    | refine aw_seq ?_
    | refine aw_region ?_
    | refine awl_skip rfl rfl ?_
    | refine aw_skip ?_
    | refine awl_valH hτ rfl rfl rfl ?_
  refine awl_callP hτ false [] rfl rfl rfl (enterOk func60 rfl rfl) rfl rfl (by simp) (by repeat' first | exact trivial | refine ⟨?_, ?_⟩) (by repeat' first | exact trivial | refine ⟨?_, ?_⟩) (in_ok dg 1 9) ?_
  rintro r o new ⟨rfl, rfl, rfl⟩ -
  repeat first
    | refine awl_val hτ rfl rfl rfl ?_
    | refine awl_nil ?_
    | refine aw_seq ?_
    | refine aw_region ?_
    | refine awl_skip rfl rfl ?_
    | refine aw_skip ?_
    | refine awl_valH hτ rfl rfl rfl ?_
  refine awl_split 7 rfl (fun hb => ?_) (fun hb => ?_)
  · repeat first
      | refine awl_val hτ rfl rfl rfl ?_
      | refine awl_nil ?_
      | refine aw_seq ?_
      | refine aw_region ?_
      | refine awl_skip rfl rfl ?_
      | refine aw_skip ?_
      | refine awl_valH hτ rfl rfl rfl ?_
    refine aw_cond rfl (fun hd => ?_) (fun hd => nomatch hd)
    repeat first
      | refine awl_val hτ rfl rfl rfl ?_
      | refine awl_nil ?_
      | refine aw_seq ?_
      | refine aw_region ?_
      | refine awl_skip rfl rfl ?_
      | refine aw_skip ?_
      | refine awl_valH hτ rfl rfl rfl ?_
    refine aw_ret ?_
    refine ret_data (.inr rfl) rfl rfl trivial (fun h => nomatch h) ⟨?_, rfl, rfl⟩
    have hb' : (!(decide ((1 : Int) ≤ dg) && decide ((dg : Int) ≤ 9))) = true := hb
    have hz : (decide ((1 : Int) ≤ dg) && decide ((dg : Int) ≤ 9)) = false := by
      revert hb'
      cases (decide ((1 : Int) ≤ dg) && decide ((dg : Int) ≤ 9)) <;> simp
    rw [validM, hz]; rfl
  · have hb' : (!(decide ((1 : Int) ≤ dg) && decide ((dg : Int) ≤ 9))) = false := hb
    have hv : (decide ((1 : Int) ≤ dg) && decide ((dg : Int) ≤ 9)) = true := by simpa using hb'
    repeat first
      | refine awl_val hτ rfl rfl rfl ?_
      | refine awl_nil ?_
      | refine aw_seq ?_
      | refine aw_region ?_
      | refine awl_skip rfl rfl ?_
      | refine aw_skip ?_
      | refine awl_valH hτ rfl rfl rfl ?_
    refine aw_cond rfl (fun hd => ?_) (fun hd => ?_)
    · repeat first
        | refine awl_val hτ rfl rfl rfl ?_
        | refine awl_nil ?_
        | refine aw_seq ?_
        | refine aw_region ?_
        | refine awl_skip rfl rfl ?_
        | refine aw_skip ?_
        | refine awl_valH hτ rfl rfl rfl ?_
      refine aw_ret ?_
      refine ret_data (.inr rfl) rfl rfl trivial (fun h => nomatch h) ⟨?_, rfl, rfl⟩
      have hd' : decide (((intD rs).length : Int) > 256) = true := hd
      rw [intD_length] at hd'
      rw [validM, hv, hd']; rfl
    · repeat first
        | refine awl_val hτ rfl rfl rfl ?_
        | refine awl_nil ?_
        | refine aw_seq ?_
        | refine aw_region ?_
        | refine awl_skip rfl rfl ?_
        | refine aw_skip ?_
        | refine awl_valH hτ rfl rfl rfl ?_
      refine awl_callP hτ false [0] rfl rfl rfl (enterOk func61 rfl rfl) rfl rfl (by simp) (by repeat' first | exact trivial | refine ⟨?_, ?_⟩) (by repeat' first | exact trivial | refine ⟨?_, ?_⟩) (contains_ok 62 (enterOk func62 rfl rfl) (badR dg) dg t t rs rs hl (valid1_ok dg hn t rs)) ?_
      rintro r o new ⟨rfl, rfl, rfl⟩ -
      repeat first
        | refine awl_val hτ rfl rfl rfl ?_
        | refine awl_nil ?_
        | refine aw_seq ?_
        | refine aw_region ?_
        | refine awl_skip rfl rfl ?_
        | refine aw_skip ?_
        | refine awl_valH hτ rfl rfl rfl ?_
      refine aw_ret ?_
      refine ret_data (.inr rfl) rfl rfl trivial (fun h => nomatch h) ⟨?_, rfl, rfl⟩
      have hd' : decide (((intD rs).length : Int) > 256) = false := hd
      rw [intD_length] at hd'
      rw [validM, hv, hd']; rfl
end Go.Proofs.Ytolggocnbakokaa.AWN

namespace Go.Proofs.Ytolggocnbakokaa.AWN
open Go Go.Proofs.Try

def useS (q a b : Int) : Int := if b - a < 0 then b - a + q else b - a
def usesS (q : Int) : List Int → List Int
  | a :: b :: r => useS q a b :: usesS q (b :: r)
  | _ => []
theorem usesS_drop {q : Int} {rs : List Int} {k : Nat} (h : k + 1 < rs.length) : usesS q (rs.drop k) = useS q (rs.getD k 0) (rs.getD (k + 1) 0) :: usesS q (rs.drop (k + 1)) := by
  rw [drop_cons (by omega), drop_cons h, usesS]
theorem usesS_end {q : Int} {rs : List Int} {k : Nat} (h : ¬ k + 1 < rs.length) : usesS q (rs.drop k) = [] := by
  have hl : (rs.drop k).length ≤ 1 := by simp; omega
  rcases hd : rs.drop k with _ | ⟨x, _ | ⟨y, r⟩⟩
  · rfl
  · rfl
  · rw [hd] at hl; simp at hl

theorem uses_ok (dg : Nat) (hn : dg ≤ 9) (t : Bool) (rs : List Int) (hl : rs.length ≤ 256) (hv : ∀ i, i < rs.length → 0 ≤ rs.getD i 0 ∧ rs.getD i 0 < (10 ^ dg : Nat)) : ACall prog false 56 [.ptr 0 0] [mtO dg t rs]
    (fun r o new => r = .row 1 (usesS (10 ^ dg : Nat) rs).length 0 (usesS (10 ^ dg : Nat) rs).length ∧ o = [mtO dg t rs] ∧ new = [.row 1 (intD (usesS (10 ^ dg : Nat) rs))]) := by
  have hp : 10 ^ dg ≤ 1000000000 := pow_le9 hn
  refine acall_of_aw hτ func56 rfl (by simp) (by simp [mtO]) ?_
  repeat first
    | refine awl_val hτ rfl rfl rfl ?_
    | refine awl_nil ?_
    | refine aw_seq ?_
    | refine aw_region ?_
    | refine awl_skip rfl rfl ?_
    | refine aw_skip ?_
    | refine awl_valH hτ rfl rfl rfl ?_
  refine aw_block ?_
  refine aw_loop (ι := Nat × List (List D) × Int) (fun (L, es, x) => St.of [(0, .ptr 0 0), (3, .row 1 L 0 L), (4, .d (.int .i64 x))] [mtO dg t rs, .row 1 es] f56.ntmps 1)
    (fun x => ∃ (k : Nat) (acc : List Int), x.2.2 = k + 1 ∧ k ≤ rs.length ∧ x.2.1 = intD acc ∧ x.1 = acc.length ∧ acc.length ≤ k ∧ acc ++ usesS (10 ^ dg : Nat) (rs.drop k) = usesS (10 ^ dg : Nat) rs) (fun x => rs.length + 1 - x.2.2.toNat) (0, [], 1) ⟨0, [], rfl, Nat.zero_le _, rfl, rfl, Nat.zero_le _, rfl⟩
    (weak_ofP [0, 1] rfl (by simp) rfl (by repeat' first | exact trivial | refine ⟨?_, ?_⟩) ⟨rfl, trivial, rfl, trivial, rfl, trivial, trivial⟩) ?_
  rintro ⟨_, _, _⟩ ⟨k, acc, rfl, hk, rfl, rfl, hak, hacc⟩
  repeat first
    | refine awl_val hτ rfl rfl rfl ?_
    | refine awl_nil ?_
    | refine aw_seq ?_
    | refine aw_region ?_
    | refine awl_skip rfl rfl ?_
    | refine aw_skip ?_
    | refine awl_valH hτ rfl rfl rfl ?_
  refine aw_cond rfl (fun hc => ?_) (fun hc => ?_)
  · simp only [decide_eq_true_eq] at hc
    rw [intD_length] at hc
    have hw : IntKind.wrap .i64 ((k : Int) + 1 - 1) = k := by rw [wrap_id _ (by omega) (by omega)]; omega
    repeat first
      | refine awl_val hτ rfl rfl rfl ?_
      | refine awl_nil ?_
      | refine aw_seq ?_
      | refine aw_region ?_
      | refine awl_skip rfl rfl ?_
      | refine aw_skip ?_
      | refine awl_valH hτ rfl rfl rfl ?_
    refine aw_block ?_
    repeat first
      | refine awl_val hτ rfl rfl rfl ?_
      | refine awl_nil ?_
      | refine aw_seq ?_
      | refine aw_region ?_
      | refine awl_skip rfl rfl ?_
      | refine aw_skip ?_
      | refine awl_valH hτ rfl rfl rfl ?_
    refine any_start ?_
    refine any_val hτ [0] 0 rfl rfl rfl rfl rfl ?_
    refine any_val hτ [0] 1 rfl rfl rfl rfl rfl ?_
    refine any_val hτ [0] 2 rfl rfl rfl rfl rfl ?_
    refine any_val hτ [0] 3 rfl rfl rfl rfl rfl ?_
    refine any_val hτ [0] 4 rfl rfl rfl rfl rfl ?_
    refine any_elem hτ [0] 5 rfl rfl rfl rfl rfl (by omega) (intD_get (by omega)) rfl ?_
    refine any_val hτ [0] 6 rfl rfl rfl rfl rfl ?_
    refine any_val hτ [0] 7 rfl rfl rfl rfl rfl ?_
    refine any_val hτ [0] 8 rfl rfl rfl rfl rfl ?_
    refine any_val hτ [0] 9 rfl rfl rfl rfl rfl ?_
    refine any_val hτ [0] 10 rfl rfl rfl rfl rfl ?_
    refine any_val hτ [0] 11 rfl rfl rfl rfl rfl ?_
    refine any_val hτ [0] 12 rfl rfl rfl rfl rfl ?_
    refine any_elem hτ [0] 13 rfl rfl rfl rfl rfl (by rw [hw]; omega) (intD_get (by rw [hw]; omega)) rfl ?_
    refine any_val hτ [0] 14 rfl rfl rfl rfl rfl ?_
    refine any_val hτ [0] 15 rfl rfl rfl rfl rfl ?_
    refine any_val hτ [0] 16 rfl rfl rfl rfl rfl ?_
    refine any_done mixed (by kernel_rfl) ?_
    repeat first
      | refine awl_val hτ rfl rfl rfl ?_
      | refine awl_nil ?_
      | refine aw_seq ?_
      | refine aw_region ?_
      | refine awl_skip rfl rfl ?_
      | refine aw_skip ?_
      | refine awl_valH hτ rfl rfl rfl ?_
    have va := hv k (by omega)
    have vb := hv (k + 1) (by omega)
    have ek : IntKind.wrap .i64 ((k : Int) + 1 + 1) = ((k + 1 : Nat) : Int) + 1 := by rw [wrap_id _ (by omega) (by omega)]; omega
    have hus := usesS_drop (q := (10 ^ dg : Nat)) (rs := rs) (k := k) (by omega)
    have en : IntKind.wrap .i64 (rs.getD ((k : Int) + 1).toNat 0 - rs.getD (IntKind.wrap .i64 ((k : Int) + 1 - 1)).toNat 0) = rs.getD (k + 1) 0 - rs.getD k 0 := by
      rw [hw, show ((k : Int) + 1).toNat = k + 1 by omega, show (k : Int).toNat = k by omega]
      exact wrap_id _ (by omega) (by omega)
    have next : ∀ n, n = useS (10 ^ dg : Nat) (rs.getD k 0) (rs.getD (k + 1) 0) → ∃ (k' : Nat) (acc' : List Int), IntKind.wrap .i64 ((k : Int) + 1 + 1) = k' + 1 ∧ k' ≤ rs.length ∧ intD acc ++ [[.int .i64 n]] = intD acc' ∧ acc.length + 1 = acc'.length ∧ acc'.length ≤ k' ∧ acc' ++ usesS (10 ^ dg : Nat) (rs.drop k') = usesS (10 ^ dg : Nat) rs := by
      rintro _ rfl
      exact ⟨k + 1, acc ++ [useS (10 ^ dg : Nat) (rs.getD k 0) (rs.getD (k + 1) 0)], ek, by omega, by simp [intD], by simp, by simp; omega, by rw [← hacc, hus]; simp⟩
    have less : rs.length + 1 - (IntKind.wrap .i64 ((k : Int) + 1 + 1)).toNat < rs.length + 1 - ((k : Int) + 1).toNat := by rw [ek]; omega
    have room : (acc.length + 1) * 8 ≤ 140737488355328 := by omega
    refine aw_cond rfl (fun hd => ?_) (fun hd => ?_)
    · simp only [decide_eq_true_eq] at hd
      rw [en] at hd
      repeat first
        | refine awl_val hτ rfl rfl rfl ?_
        | refine awl_nil ?_
        | refine aw_seq ?_
        | refine aw_region ?_
        | refine awl_skip rfl rfl ?_
        | refine aw_skip ?_
        | refine awl_valH hτ rfl rfl rfl ?_
      refine awl_callP hτ false [0] rfl rfl rfl (enterOk func63 rfl rfl) rfl rfl (by simp) (by repeat' first | exact trivial | refine ⟨?_, ?_⟩) (by repeat' first | exact trivial | refine ⟨?_, ?_⟩) (around_ok dg hn t rs) ?_
      rintro r o new ⟨rfl, rfl, rfl⟩ -
      repeat first
        | refine awl_val hτ rfl rfl rfl ?_
        | refine awl_nil ?_
        | refine aw_seq ?_
        | refine aw_region ?_
        | refine awl_skip rfl rfl ?_
        | refine aw_skip ?_
        | refine awl_valH hτ rfl rfl rfl ?_
      refine awl_needH hτ rfl rfl rfl ⟨⟨rfl, by decide⟩, intD_length _, rfl, rfl, room, by decide, fun y hy => ?_⟩ ?_
      · rw [List.mem_singleton.1 hy]; rfl
      repeat first
        | refine awl_val hτ rfl rfl rfl ?_
        | refine awl_nil ?_
        | refine aw_seq ?_
        | refine aw_region ?_
        | refine awl_skip rfl rfl ?_
        | refine aw_skip ?_
        | refine awl_valH hτ rfl rfl rfl ?_
      refine ⟨(acc.length + 1, intD acc ++ [[.int .i64 (IntKind.wrap .i64 (IntKind.wrap .i64 (rs.getD ((k : Int) + 1).toNat 0 - rs.getD (IntKind.wrap .i64 ((k : Int) + 1 - 1)).toNat 0) + (10 ^ dg : Nat)))]], IntKind.wrap .i64 ((k : Int) + 1 + 1)), next _ ?_, less, weak_ofP [0, 1] rfl (by simp) rfl (by repeat' first | exact trivial | refine ⟨?_, ?_⟩) ⟨rfl, trivial, rfl, trivial, rfl, trivial, trivial⟩⟩
      rw [en, useS, if_pos hd]
      generalize 10 ^ dg = q at *
      exact wrap_id _ (by omega) (by omega)
    · simp only [decide_eq_false_iff_not] at hd
      rw [en] at hd
      repeat first
        | refine awl_val hτ rfl rfl rfl ?_
        | refine awl_nil ?_
        | refine aw_seq ?_
        | refine aw_region ?_
        | refine awl_skip rfl rfl ?_
        | refine aw_skip ?_
        | refine awl_valH hτ rfl rfl rfl ?_
      refine awl_needH hτ rfl rfl rfl ⟨⟨rfl, by decide⟩, intD_length _, rfl, rfl, room, by decide, fun y hy => ?_⟩ ?_
      · rw [List.mem_singleton.1 hy]; rfl
      repeat first
        | refine awl_val hτ rfl rfl rfl ?_
        | refine awl_nil ?_
        | refine aw_seq ?_
        | refine aw_region ?_
        | refine awl_skip rfl rfl ?_
        | refine aw_skip ?_
        | refine awl_valH hτ rfl rfl rfl ?_
      refine ⟨(acc.length + 1, intD acc ++ [[.int .i64 (IntKind.wrap .i64 (rs.getD ((k : Int) + 1).toNat 0 - rs.getD (IntKind.wrap .i64 ((k : Int) + 1 - 1)).toNat 0))]], IntKind.wrap .i64 ((k : Int) + 1 + 1)), next _ ?_, less, weak_ofP [0, 1] rfl (by simp) rfl (by repeat' first | exact trivial | refine ⟨?_, ?_⟩) ⟨rfl, trivial, rfl, trivial, rfl, trivial, trivial⟩⟩
      rw [en, useS, if_neg hd]
  · refine aw_exit ?_
    simp only [decide_eq_false_iff_not] at hc
    rw [intD_length] at hc
    repeat first
      | refine awl_val hτ rfl rfl rfl ?_
      | refine awl_nil ?_
      | refine aw_seq ?_
      | refine aw_region ?_
      | refine awl_skip rfl rfl ?_
      | refine aw_skip ?_
      | refine awl_valH hτ rfl rfl rfl ?_
    refine aw_ret ?_
    rw [usesS_end (by omega), List.append_nil] at hacc
    refine ret_objs (.inr rfl) [1] (new := [_]) (objs' := [_]) rfl (by simp) (by simp) rfl trivial rfl rfl (by repeat' first | exact trivial | refine ⟨?_, ?_⟩) (fun h => nomatch h) ⟨?_, rfl, ?_⟩
    · rw [← hacc]
    · rw [← hacc]
end Go.Proofs.Ytolggocnbakokaa.AWN

namespace Go.Proofs.Ytolggocnbakokaa.AWN
open Go Go.Proofs.Try

def Small (us : List Int) : Prop := us.length ≤ 256 ∧ ∀ i, i < us.length → 0 ≤ us.getD i 0 ∧ us.getD i 0 ≤ 1000000000

theorem summed_ok (t : Bool) (us : List Int) (hs : Small us) : ACall prog false 57 [.d (.sl t (intD us))] [] (fun r o new => r = .d (.int .i64 us.sum) ∧ o = [] ∧ new = []) := by
  obtain ⟨hl, hv⟩ := hs
  refine acall_of_aw hτ func57 rfl (by simp) (by simp) ?_
  repeat first
    | refine awl_val hτ rfl rfl rfl ?_
    | refine awl_nil ?_
    | refine aw_seq ?_
    | refine aw_region ?_
    | refine awl_skip rfl rfl ?_
    | refine aw_skip ?_
    | refine awl_valH hτ rfl rfl rfl ?_
  refine aw_block ?_
  refine aw_loop (ι := Int × Int) (fun (s, x) => St.of [(3, .d (.int .i64 s)), (6, .d (.sl t (intD us))), (7, .d (.int .i64 (intD us).length)), (8, .d (.int .i64 x))] [] f57.ntmps 0)
    (fun (s, x) => ∃ k : Nat, x = k ∧ k ≤ us.length ∧ s + (us.drop k).sum = us.sum ∧ 0 ≤ s ∧ s ≤ k * 1000000000) (fun (s, x) => us.length - x.toNat) (0, 0) ⟨0, rfl, Nat.zero_le _, by simp, by simp, by simp⟩
    (weak_ofP [] rfl (by simp) rfl (by repeat' first | exact trivial | refine ⟨?_, ?_⟩) ⟨rfl, trivial, rfl, trivial, rfl, trivial, rfl, trivial, trivial⟩) ?_
  rintro ⟨s, _⟩ ⟨k, rfl, hk, hsum, h0, h1⟩
  repeat first
    | refine awl_val hτ rfl rfl rfl ?_
    | refine awl_nil ?_
    | refine aw_seq ?_
    | refine aw_region ?_
    | refine awl_skip rfl rfl ?_
    | refine aw_skip ?_
    | refine awl_valH hτ rfl rfl rfl ?_
  refine aw_cond rfl (fun hc => ?_) (fun hc => ?_)
  · simp only [decide_eq_true_eq] at hc
    rw [intD_length] at hc
    repeat first
      | refine awl_val hτ rfl rfl rfl ?_
      | refine awl_nil ?_
      | refine aw_seq ?_
      | refine aw_region ?_
      | refine awl_skip rfl rfl ?_
      | refine aw_skip ?_
      | refine awl_valH hτ rfl rfl rfl ?_
    refine aw_block ?_
    repeat first
      | refine awl_val hτ rfl rfl rfl ?_
      | refine awl_nil ?_
      | refine aw_seq ?_
      | refine aw_region ?_
      | refine awl_skip rfl rfl ?_
      | refine aw_skip ?_
      | refine awl_valH hτ rfl rfl rfl ?_
    refine awl_elem hτ rfl rfl rfl (by omega) (intD_get (by omega)) rfl ?_
    repeat first
      | refine awl_val hτ rfl rfl rfl ?_
      | refine awl_nil ?_
      | refine aw_seq ?_
      | refine aw_region ?_
      | refine awl_skip rfl rfl ?_
      | refine aw_skip ?_
      | refine awl_valH hτ rfl rfl rfl ?_
    have hvk := hv k (by omega)
    have ek : IntKind.wrap .i64 ((k : Int) + 1) = ((k + 1 : Nat) : Int) := by rw [wrap_id _ (by omega) (by omega)]; omega
    have es : IntKind.wrap .i64 (s + us.getD (k : Int).toNat 0) = s + us.getD k 0 := by
      have h2 : s + us.getD (k : Int).toNat 0 = s + us.getD k 0 := by rw [show (k : Int).toNat = k by omega]
      have h3 : s + us.getD k 0 ≤ 1000000000 * 257 := by omega
      rw [h2]
      exact wrap_id _ (by omega) (by omega)
    refine ⟨(IntKind.wrap .i64 (s + us.getD (k : Int).toNat 0), IntKind.wrap .i64 ((k : Int) + 1)), ⟨k + 1, ek, by omega, ?_, ?_, ?_⟩, ?_, weak_ofP [] rfl (by simp) rfl (by repeat' first | exact trivial | refine ⟨?_, ?_⟩) ⟨rfl, trivial, rfl, trivial, rfl, trivial, rfl, trivial, trivial⟩⟩
    · show IntKind.wrap .i64 (s + us.getD (k : Int).toNat 0) + (us.drop (k + 1)).sum = us.sum
      rw [es, ← hsum, drop_cons (rs := us) (i := k) (by omega), List.sum_cons]; omega
    · show 0 ≤ IntKind.wrap .i64 (s + us.getD (k : Int).toNat 0)
      rw [es]; omega
    · show IntKind.wrap .i64 (s + us.getD (k : Int).toNat 0) ≤ ((k + 1 : Nat) : Int) * 1000000000
      rw [es]; omega
    · show us.length - (IntKind.wrap .i64 ((k : Int) + 1)).toNat < us.length - (k : Int).toNat
      rw [ek]; omega
  · refine aw_exit ?_
    simp only [decide_eq_false_iff_not] at hc
    rw [intD_length] at hc
    repeat first
      | refine awl_val hτ rfl rfl rfl ?_
      | refine awl_nil ?_
      | refine aw_seq ?_
      | refine aw_region ?_
      | refine awl_skip rfl rfl ?_
      | refine aw_skip ?_
      | refine awl_valH hτ rfl rfl rfl ?_
    refine aw_ret ?_
    refine ret_data (.inr rfl) rfl rfl trivial (fun h => nomatch h) ⟨?_, rfl, rfl⟩
    have : us.drop k = [] := List.drop_eq_nil_iff.2 (by omega)
    rw [this] at hsum
    simp only [List.sum_nil, Int.add_zero] at hsum
    rw [← hsum]

def maxS : List Int → Int → Int
  | [], m => m
  | n :: r, m => maxS r (if n > m then n else m)

theorem max_ok (t : Bool) (us : List Int) (hl : us.length ≤ 256) (hne : 0 < us.length) : ACall prog false 58 [.d (.sl t (intD us))] [] (fun r o new => r = .d (.int .i64 (maxS (us.drop 1) (us.getD 0 0))) ∧ o = [] ∧ new = []) := by
  refine acall_of_aw hτ func58 rfl (by simp) (by simp) ?_
  repeat first
    | refine awl_val hτ rfl rfl rfl ?_
    | refine awl_nil ?_
    | refine aw_seq ?_
    | refine aw_region ?_
    | refine awl_skip rfl rfl ?_
    | refine aw_skip ?_
    | refine awl_valH hτ rfl rfl rfl ?_
  refine aw_cond rfl (fun hc => ?_) (fun hc => ?_)
  · simp only [decide_eq_true_eq] at hc
    rw [intD_length] at hc
    omega
  repeat first
    | refine awl_val hτ rfl rfl rfl ?_
    | refine awl_nil ?_
    | refine aw_seq ?_
    | refine aw_region ?_
    | refine awl_skip rfl rfl ?_
    | refine aw_skip ?_
    | refine awl_valH hτ rfl rfl rfl ?_
  refine awl_elem hτ rfl rfl rfl (by decide) (intD_get (i := 0) hne) rfl ?_
  repeat first
    | refine awl_val hτ rfl rfl rfl ?_
    | refine awl_nil ?_
    | refine aw_seq ?_
    | refine aw_region ?_
    | refine awl_skip rfl rfl ?_
    | refine aw_skip ?_
    | refine awl_valH hτ rfl rfl rfl ?_
  refine aw_block ?_
  refine aw_loop (ι := Int × Int) (fun (s, x) => St.of [(0, .d (.sl t (intD us))), (3, .d (.int .i64 s)), (4, .d (.int .i64 x))] [] f58.ntmps 0)
    (fun (s, x) => ∃ k : Nat, x = k ∧ k ≤ us.length ∧ maxS (us.drop k) s = maxS (us.drop 1) (us.getD 0 0)) (fun (s, x) => us.length - x.toNat) (us.getD 0 0, 1) ⟨1, rfl, hne, rfl⟩
    (weak_ofP [] rfl (by simp) rfl (by repeat' first | exact trivial | refine ⟨?_, ?_⟩) ⟨rfl, trivial, rfl, trivial, rfl, trivial, trivial⟩) ?_
  rintro ⟨s, _⟩ ⟨k, rfl, hk, hm⟩
  repeat first
    | refine awl_val hτ rfl rfl rfl ?_
    | refine awl_nil ?_
    | refine aw_seq ?_
    | refine aw_region ?_
    | refine awl_skip rfl rfl ?_
    | refine aw_skip ?_
    | refine awl_valH hτ rfl rfl rfl ?_
  refine aw_cond rfl (fun hc => ?_) (fun hc => ?_)
  · simp only [decide_eq_true_eq] at hc
    rw [intD_length] at hc
    repeat first
      | refine awl_val hτ rfl rfl rfl ?_
      | refine awl_nil ?_
      | refine aw_seq ?_
      | refine aw_region ?_
      | refine awl_skip rfl rfl ?_
      | refine aw_skip ?_
      | refine awl_valH hτ rfl rfl rfl ?_
    refine aw_block ?_
    repeat first
      | refine awl_val hτ rfl rfl rfl ?_
      | refine awl_nil ?_
      | refine aw_seq ?_
      | refine aw_region ?_
      | refine awl_skip rfl rfl ?_
      | refine aw_skip ?_
      | refine awl_valH hτ rfl rfl rfl ?_
    refine awl_elem hτ rfl rfl rfl (by omega) (intD_get (by omega)) rfl ?_
    repeat first
      | refine awl_val hτ rfl rfl rfl ?_
      | refine awl_nil ?_
      | refine aw_seq ?_
      | refine aw_region ?_
      | refine awl_skip rfl rfl ?_
      | refine aw_skip ?_
      | refine awl_valH hτ rfl rfl rfl ?_
    have ek : IntKind.wrap .i64 ((k : Int) + 1) = ((k + 1 : Nat) : Int) := by rw [wrap_id _ (by omega) (by omega)]; omega
    refine ⟨(_, IntKind.wrap .i64 ((k : Int) + 1)), ⟨k + 1, ek, by omega, ?_⟩, ?_, weak_ofP [] rfl (by simp) rfl (by repeat' first | exact trivial | refine ⟨?_, ?_⟩) ⟨rfl, trivial, rfl, trivial, rfl, trivial, trivial⟩⟩
    · rw [← hm, drop_cons (rs := us) (i := k) (by omega)]; rfl
    · show us.length - (IntKind.wrap .i64 ((k : Int) + 1)).toNat < us.length - (k : Int).toNat
      rw [ek]; omega
  · refine aw_exit ?_
    simp only [decide_eq_false_iff_not] at hc
    rw [intD_length] at hc
    repeat first
      | refine awl_val hτ rfl rfl rfl ?_
      | refine awl_nil ?_
      | refine aw_seq ?_
      | refine aw_region ?_
      | refine awl_skip rfl rfl ?_
      | refine aw_skip ?_
      | refine awl_valH hτ rfl rfl rfl ?_
    refine aw_ret ?_
    refine ret_data (.inr rfl) rfl rfl trivial (fun h => nomatch h) ⟨?_, rfl, rfl⟩
    have : us.drop k = [] := List.drop_eq_nil_iff.2 (by omega)
    rw [this] at hm
    rw [← hm]; rfl

/-- A valid meter. -/
structure GoodM (dg : Nat) (rs : List Int) : Prop where
  one : 1 ≤ dg
  nine : dg ≤ 9
  len : rs.length ≤ 256
  ok : ∀ i, i < rs.length → 0 ≤ rs.getD i 0 ∧ rs.getD i 0 < (10 ^ dg : Nat)

theorem GoodM.valid {dg : Nat} {rs : List Int} (h : GoodM dg rs) : validM dg rs = true := by
  unfold validM
  have h1 := h.one
  have h9 := h.nine
  have hl := h.len
  have ha : rs.any (badR dg) = false := by
    rw [List.any_eq_false]
    intro x hx
    obtain ⟨i, hi, rfl⟩ := List.getElem_of_mem hx
    have := h.ok i hi
    rw [List.getD_eq_getElem?_getD, List.getElem?_eq_getElem hi, Option.getD_some] at this
    unfold badR
    rw [decide_eq_true this.1, decide_eq_true (show rs[i] ≤ ((10 ^ dg : Nat) : Int) - 1 by omega)]
    decide
  rw [ha, decide_eq_true (show (1 : Int) ≤ dg by omega), decide_eq_true (show (dg : Int) ≤ 9 by omega), decide_eq_false (show ¬ (rs.length : Int) > 256 by omega)]
  rfl

theorem useS_small {q a b : Int} (ha : 0 ≤ a ∧ a < q) (hb : 0 ≤ b ∧ b < q) : 0 ≤ useS q a b ∧ useS q a b < q := by
  unfold useS; split <;> omega
theorem usesS_small {q : Int} : ∀ {rs : List Int}, (∀ i, i < rs.length → 0 ≤ rs.getD i 0 ∧ rs.getD i 0 < q) → (usesS q rs).length = rs.length - 1 ∧ ∀ x ∈ usesS q rs, 0 ≤ x ∧ x < q
  | [], _ => ⟨rfl, fun _ h => nomatch h⟩
  | [a], _ => ⟨rfl, fun _ h => nomatch h⟩
  | a :: b :: r, h => by
    have ih := usesS_small (rs := b :: r) (q := q) fun i hi => by
      have := h (i + 1) (by simpa using hi)
      simpa using this
    refine ⟨by rw [usesS, List.length_cons, ih.1]; simp, fun x hx => ?_⟩
    rw [usesS] at hx
    rcases List.mem_cons.1 hx with rfl | hx
    · exact useS_small (h 0 (by simp)) (h 1 (by simp))
    · exact ih.2 x hx
theorem GoodM.small {dg : Nat} {rs : List Int} (h : GoodM dg rs) : Small (usesS (10 ^ dg : Nat) rs) := by
  have hp : 10 ^ dg ≤ 1000000000 := pow_le9 h.nine
  obtain ⟨h1, h2⟩ := usesS_small h.ok
  have hl := h.len
  refine ⟨by omega, fun i hi => ?_⟩
  rw [List.getD_eq_getElem?_getD, List.getElem?_eq_getElem hi, Option.getD_some]
  have := h2 _ (List.getElem_mem hi)
  omega

theorem usesOf_ok (dg : Nat) (t : Bool) (rs : List Int) (hg : GoodM dg rs) : ACall prog false 20 [mtV dg t rs] []
    (fun r o new => r = .tup [.row 0 (usesS (10 ^ dg : Nat) rs).length 0 (usesS (10 ^ dg : Nat) rs).length, .d (.bool true)] ∧ o = [] ∧ new = [.row 1 (intD (usesS (10 ^ dg : Nat) rs))]) := by
  have hl := hg.len
  refine acall_of_aw hτ func20 rfl (by simp) (by simp) ?_
  repeat first
    | refine awl_val hτ rfl rfl rfl ?_
    | refine awl_nil ?_
    | refine aw_seq ?_
    | refine aw_region ?_
    | refine awl_skip rfl rfl ?_
    | refine aw_skip ?_
    | refine awl_valH hτ rfl rfl rfl ?_
  refine awl_callP hτ false [] rfl rfl rfl (enterOk func26 rfl rfl) rfl rfl (by simp) (by repeat' first | exact trivial | refine ⟨?_, ?_⟩) (by repeat' first | exact trivial | refine ⟨?_, ?_⟩) (valid_ok dg hg.nine t rs (by omega)) ?_
  rw [hg.valid]
  rintro r o new ⟨rfl, rfl, rfl⟩ -
  repeat first
    | refine awl_val hτ rfl rfl rfl ?_
    | refine awl_nil ?_
    | refine aw_seq ?_
    | refine aw_region ?_
    | refine awl_skip rfl rfl ?_
    | refine aw_skip ?_
    | refine awl_valH hτ rfl rfl rfl ?_
  refine aw_cond rfl (fun hd => nomatch hd) (fun hd => ?_)
  repeat first
    | refine awl_val hτ rfl rfl rfl ?_
    | refine awl_nil ?_
    | refine aw_seq ?_
    | refine aw_region ?_
    | refine awl_skip rfl rfl ?_
    | refine aw_skip ?_
    | refine awl_valH hτ rfl rfl rfl ?_
  refine awl_callP hτ false [0] rfl rfl rfl (enterOk func56 rfl rfl) rfl rfl (by simp) (by repeat' first | exact trivial | refine ⟨?_, ?_⟩) (by repeat' first | exact trivial | refine ⟨?_, ?_⟩) (uses_ok dg hg.nine t rs hg.len hg.ok) ?_
  rintro r o new ⟨rfl, rfl, rfl⟩ -
  repeat first
    | refine awl_val hτ rfl rfl rfl ?_
    | refine awl_nil ?_
    | refine aw_seq ?_
    | refine aw_region ?_
    | refine awl_skip rfl rfl ?_
    | refine aw_skip ?_
    | refine awl_valH hτ rfl rfl rfl ?_
  refine aw_ret ?_
  exact ret_objs (.inr rfl) [1] (new := [_]) (objs' := []) rfl (by simp) (by simp) rfl (by repeat' first | exact trivial | refine ⟨?_, ?_⟩) rfl rfl (by repeat' first | exact trivial | refine ⟨?_, ?_⟩) (fun h => nomatch h) ⟨rfl, rfl, rfl⟩

theorem exV_row {ρ : Nat → Option Nat} {H : Nat → AObj} {j L sz : Nat} {es : List (List D)} (hr : ρ j = none) (hj : H j = .row sz es) (hl : es.length = L) : exV ρ H true (.row j L 0 L) = some (.d (.sl false es)) := by
  subst hl
  simp [exV, exA, exC, hr, hj]

theorem useOf_ok (dg : Nat) (t : Bool) (rs : List Int) (hg : GoodM dg rs) : ACall prog false 21 [mtV dg t rs] []
    (fun r o new => r = .tup [.d (.int .i64 (usesS (10 ^ dg : Nat) rs).sum), .d (.bool true)] ∧ o = [] ∧ new = []) := by
  have hl := hg.len
  refine acall_of_aw hτ func21 rfl (by simp) (by simp) ?_
  repeat first
    | refine awl_val hτ rfl rfl rfl ?_
    | refine awl_nil ?_
    | refine aw_seq ?_
    | refine aw_region ?_
    | refine awl_skip rfl rfl ?_
    | refine aw_skip ?_
    | refine awl_valH hτ rfl rfl rfl ?_
  refine awl_callP hτ false [] rfl rfl rfl (enterOk func26 rfl rfl) rfl rfl (by simp) (by repeat' first | exact trivial | refine ⟨?_, ?_⟩) (by repeat' first | exact trivial | refine ⟨?_, ?_⟩) (valid_ok dg hg.nine t rs (by omega)) ?_
  rw [hg.valid]
  rintro r o new ⟨rfl, rfl, rfl⟩ -
  repeat first
    | refine awl_val hτ rfl rfl rfl ?_
    | refine awl_nil ?_
    | refine aw_seq ?_
    | refine aw_region ?_
    | refine awl_skip rfl rfl ?_
    | refine aw_skip ?_
    | refine awl_valH hτ rfl rfl rfl ?_
  refine aw_cond rfl (fun hd => nomatch hd) (fun hd => ?_)
  repeat first
    | refine awl_val hτ rfl rfl rfl ?_
    | refine awl_nil ?_
    | refine aw_seq ?_
    | refine aw_region ?_
    | refine awl_skip rfl rfl ?_
    | refine aw_skip ?_
    | refine awl_valH hτ rfl rfl rfl ?_
  refine awl_callP hτ false [0] rfl rfl rfl (enterOk func56 rfl rfl) rfl rfl (by simp) (by repeat' first | exact trivial | refine ⟨?_, ?_⟩) (by repeat' first | exact trivial | refine ⟨?_, ?_⟩) (uses_ok dg hg.nine t rs hg.len hg.ok) ?_
  rintro r o new ⟨rfl, rfl, rfl⟩ -
  refine awl_weak (weak_ofP [] (l := [(7, .d (.sl false (intD (usesS (10 ^ dg : Nat) rs))))]) rfl (by simp) rfl (by repeat' first | exact trivial | refine ⟨?_, ?_⟩) ⟨exV_row rfl rfl (intD_length _), ⟨intD_length _, by omega⟩, trivial⟩) ?_
  refine awl_callP hτ false [] rfl rfl rfl (enterOk func57 rfl rfl) rfl rfl (by simp) (by repeat' first | exact trivial | refine ⟨?_, ?_⟩) (by repeat' first | exact trivial | refine ⟨?_, ?_⟩) (summed_ok false _ hg.small) ?_
  rintro r o new ⟨rfl, rfl, rfl⟩ -
  repeat first
    | refine awl_val hτ rfl rfl rfl ?_
    | refine awl_nil ?_
    | refine aw_seq ?_
    | refine aw_region ?_
    | refine awl_skip rfl rfl ?_
    | refine aw_skip ?_
    | refine awl_valH hτ rfl rfl rfl ?_
  refine aw_ret ?_
  exact ret_data (.inr rfl) rfl rfl (by repeat' first | exact trivial | refine ⟨?_, ?_⟩) (fun h => nomatch h) ⟨rfl, rfl, rfl⟩
end Go.Proofs.Ytolggocnbakokaa.AWN

namespace Go.Proofs.Ytolggocnbakokaa.AWN
open Go Go.Proofs.Try

/-- What has been taken away, up to 'k'. -/
def takenD (us : List Int) (k : Nat) : List (List D) := intD (List.replicate k 0 ++ us.drop k)
theorem takenD_length {us : List Int} {k : Nat} (h : k ≤ us.length) : (takenD us k).length = us.length := by
  simp [takenD, intD]; omega
theorem takenD_get {us : List Int} {k : Nat} (h : k < us.length) : (takenD us k)[k]? = some [.int .i64 (us.getD k 0)] := by
  rw [takenD, intD, List.getElem?_map, List.getElem?_append_right (by simp), List.length_replicate, Nat.sub_self, List.getElem?_drop, Nat.add_zero, List.getElem?_eq_getElem h, List.getD_eq_getElem?_getD, List.getElem?_eq_getElem h]
  rfl
theorem takenD_set {us : List Int} {k : Nat} (h : k < us.length) : (takenD us k).set k [.int .i64 0] = takenD us (k + 1) := by
  apply List.ext_getElem?
  intro i
  simp only [takenD, intD, List.getElem?_set, List.length_map, List.length_append, List.length_replicate, List.length_drop, List.getElem?_map, List.getElem?_append, List.getElem?_drop, List.getElem?_replicate]
  by_cases hik : k = i
  · subst hik
    rw [if_pos rfl, if_pos (by omega), if_pos (by omega), if_pos (by omega)]; rfl
  · rw [if_neg hik]
    by_cases h1 : i < k
    · rw [if_pos h1, if_pos (by omega), if_pos (by omega), if_pos (by omega)]
    · rw [if_neg h1, if_neg (by omega), show k + (i - k) = k + 1 + (i - (k + 1)) by omega]

def mtsD (dg : Int) (t : Bool) (rs : List Int) : V := .d (.sl false [[.int .i64 dg, .sl t (intD rs)]])

theorem balance_ok (dg : Nat) (t : Bool) (rs : List Int) (hg : GoodM dg rs) : ACall prog false 22 [mtV dg t rs, mtsD dg t rs] []
    (fun r o new => r = .tup [.row 0 (usesS (10 ^ dg : Nat) rs).length 0 (usesS (10 ^ dg : Nat) rs).length, .d (.bool true)] ∧ o = [] ∧ new = [.row 1 (intD (List.replicate (usesS (10 ^ dg : Nat) rs).length 0))]) := by
  have hl := hg.len
  have hus := hg.small
  refine acall_of_aw hτ func22 rfl (by simp) (by simp) ?_
  repeat first
    | refine awl_val hτ rfl rfl rfl ?_
    | refine awl_nil ?_
    | refine aw_seq ?_
    | refine aw_region ?_
    | refine awl_skip rfl rfl ?_
    | refine aw_skip ?_
    | refine awl_valH hτ rfl rfl rfl ?_
  refine awl_callP hτ false [] rfl rfl rfl (enterOk func26 rfl rfl) rfl rfl (by simp) (by repeat' first | exact trivial | refine ⟨?_, ?_⟩) (by repeat' first | exact trivial | refine ⟨?_, ?_⟩) (valid_ok dg hg.nine t rs (by omega)) ?_
  rw [hg.valid]
  rintro r o new ⟨rfl, rfl, rfl⟩ -
  repeat first
    | refine awl_val hτ rfl rfl rfl ?_
    | refine awl_nil ?_
    | refine aw_seq ?_
    | refine aw_region ?_
    | refine awl_skip rfl rfl ?_
    | refine aw_skip ?_
    | refine awl_valH hτ rfl rfl rfl ?_
  refine aw_cond rfl (fun hd => nomatch hd) (fun hd => ?_)
  repeat first
    | refine awl_val hτ rfl rfl rfl ?_
    | refine awl_nil ?_
    | refine aw_seq ?_
    | refine aw_region ?_
    | refine awl_skip rfl rfl ?_
    | refine aw_skip ?_
    | refine awl_valH hτ rfl rfl rfl ?_
  refine awl_callP hτ false [0] rfl rfl rfl (enterOk func56 rfl rfl) rfl rfl (by simp) (by repeat' first | exact trivial | refine ⟨?_, ?_⟩) (by repeat' first | exact trivial | refine ⟨?_, ?_⟩) (uses_ok dg hg.nine t rs hg.len hg.ok) ?_
  rintro r o new ⟨rfl, rfl, rfl⟩ -
  generalize hU : usesS (10 ^ dg : Nat) rs = us at *
  have hul := hus.1
  repeat first
    | refine awl_val hτ rfl rfl rfl ?_
    | refine awl_nil ?_
    | refine aw_seq ?_
    | refine aw_region ?_
    | refine awl_skip rfl rfl ?_
    | refine aw_skip ?_
    | refine awl_valH hτ rfl rfl rfl ?_
  refine aw_block ?_
  refine aw_loop (ι := List (List D) × Int) (fun (es, x) => St.of [(2, .ptr 0 0), (6, .row 1 us.length 0 us.length), (20, mtsD dg t rs), (21, .d (.int .i64 1)), (22, .d (.int .i64 x))] [mtO dg t rs, .row 1 es] f22.ntmps 0)
    (fun (es, x) => (x = 0 ∧ es = takenD us 0) ∨ (x = 1 ∧ es = takenD us us.length)) (fun (es, x) => 1 - x.toNat) (intD us, 0) (.inl ⟨rfl, rfl⟩)
    (weak_ofP [0, 1] rfl (by simp) rfl (by repeat' first | exact trivial | refine ⟨?_, ?_⟩) ⟨rfl, trivial, rfl, trivial, rfl, trivial, rfl, trivial, rfl, trivial, trivial⟩) ?_
  rintro ⟨es, x⟩ hI
  repeat first
    | refine awl_val hτ rfl rfl rfl ?_
    | refine awl_nil ?_
    | refine aw_seq ?_
    | refine aw_region ?_
    | refine awl_skip rfl rfl ?_
    | refine aw_skip ?_
    | refine awl_valH hτ rfl rfl rfl ?_
  refine aw_cond rfl (fun hc => ?_) (fun hc => ?_)
  · obtain ⟨rfl, rfl⟩ : x = 0 ∧ es = takenD us 0 := by
      rcases hI with h | ⟨rfl, _⟩
      · exact h
      · cases hc
    repeat first
      | refine awl_val hτ rfl rfl rfl ?_
      | refine awl_nil ?_
      | refine aw_seq ?_
      | refine aw_region ?_
      | refine awl_skip rfl rfl ?_
      | refine aw_skip ?_
      | refine awl_valH hτ rfl rfl rfl ?_
    refine aw_block ?_
    repeat first
      | refine awl_val hτ rfl rfl rfl ?_
      | refine awl_nil ?_
      | refine aw_seq ?_
      | refine aw_region ?_
      | refine awl_skip rfl rfl ?_
      | refine aw_skip ?_
      | refine awl_valH hτ rfl rfl rfl ?_
    refine awl_elem hτ rfl rfl rfl (by decide) (e := [.int .i64 dg, .sl t (intD rs)]) rfl rfl ?_
    repeat first
      | refine awl_val hτ rfl rfl rfl ?_
      | refine awl_nil ?_
      | refine aw_seq ?_
      | refine aw_region ?_
      | refine awl_skip rfl rfl ?_
      | refine aw_skip ?_
      | refine awl_valH hτ rfl rfl rfl ?_
    refine awl_callP hτ false [] rfl rfl rfl (enterOk func26 rfl rfl) rfl rfl (by simp) (by repeat' first | exact trivial | refine ⟨?_, ?_⟩) (by repeat' first | exact trivial | refine ⟨?_, ?_⟩) (valid_ok dg hg.nine t rs (by omega)) ?_
    rw [hg.valid]
    rintro r o new ⟨rfl, rfl, rfl⟩ -
    repeat first
      | refine awl_val hτ rfl rfl rfl ?_
      | refine awl_nil ?_
      | refine aw_seq ?_
      | refine aw_region ?_
      | refine awl_skip rfl rfl ?_
      | refine aw_skip ?_
      | refine awl_valH hτ rfl rfl rfl ?_
    refine aw_cond rfl (fun hd => ?_) (fun hd => ?_)
    · exfalso
      have hd' : (((intD rs).length : Int) != ((intD rs).length : Int)) = true := hd
      simp at hd'
    repeat first
      | refine awl_val hτ rfl rfl rfl ?_
      | refine awl_nil ?_
      | refine aw_seq ?_
      | refine aw_region ?_
      | refine awl_skip rfl rfl ?_
      | refine aw_skip ?_
      | refine awl_valH hτ rfl rfl rfl ?_
    refine awl_callP hτ false [2] rfl rfl rfl (enterOk func56 rfl rfl) rfl rfl (by simp) (by repeat' first | exact trivial | refine ⟨?_, ?_⟩) (by repeat' first | exact trivial | refine ⟨?_, ?_⟩) (uses_ok dg hg.nine t rs hg.len hg.ok) ?_
    rw [hU]
    rintro r o new ⟨rfl, rfl, rfl⟩ -
    refine awl_need hτ rfl rfl rfl (intD_length _) ?_
    repeat first
      | refine awl_val hτ rfl rfl rfl ?_
      | refine awl_nil ?_
      | refine aw_seq ?_
      | refine aw_region ?_
      | refine awl_skip rfl rfl ?_
      | refine aw_skip ?_
      | refine awl_valH hτ rfl rfl rfl ?_
    refine aw_block ?_
    refine aw_loop (ι := List (List D) × Int) (fun (es, y) => St.of [(2, .ptr 0 0), (6, .row 1 us.length 0 us.length), (20, mtsD dg t rs), (21, .d (.int .i64 1)), (22, .d (.int .i64 0)), (38, .d (.sl false (intD us))), (39, .d (.int .i64 us.length)), (40, .d (.int .i64 y))] [mtO dg t rs, .row 1 es] f22.ntmps 0)
      (fun (es, y) => ∃ k : Nat, y = k ∧ k ≤ us.length ∧ es = takenD us k) (fun (es, y) => us.length - y.toNat) (takenD us 0, 0) ⟨0, rfl, Nat.zero_le _, rfl⟩
      (weak_ofP [0, 1] rfl (by simp) rfl (by repeat' first | exact trivial | refine ⟨?_, ?_⟩) ⟨rfl, trivial, rfl, trivial, rfl, trivial, rfl, trivial, rfl, trivial, exV_row rfl rfl (intD_length _), ⟨intD_length _, by omega⟩, rfl, trivial, rfl, trivial, trivial⟩) ?_
    rintro ⟨es, y⟩ ⟨k, rfl, hk, rfl⟩
    repeat first
      | refine awl_val hτ rfl rfl rfl ?_
      | refine awl_nil ?_
      | refine aw_seq ?_
      | refine aw_region ?_
      | refine awl_skip rfl rfl ?_
      | refine aw_skip ?_
      | refine awl_valH hτ rfl rfl rfl ?_
    refine aw_cond rfl (fun hd2 => ?_) (fun hd2 => ?_)
    · simp only [decide_eq_true_eq] at hd2
      repeat first
        | refine awl_val hτ rfl rfl rfl ?_
        | refine awl_nil ?_
        | refine aw_seq ?_
        | refine aw_region ?_
        | refine awl_skip rfl rfl ?_
        | refine aw_skip ?_
        | refine awl_valH hτ rfl rfl rfl ?_
      refine aw_block ?_
      repeat first
        | refine awl_val hτ rfl rfl rfl ?_
        | refine awl_nil ?_
        | refine aw_seq ?_
        | refine aw_region ?_
        | refine awl_skip rfl rfl ?_
        | refine aw_skip ?_
        | refine awl_valH hτ rfl rfl rfl ?_
      refine awl_elem hτ rfl rfl rfl (by omega) (intD_get (by omega)) rfl ?_
      repeat first
        | refine awl_val hτ rfl rfl rfl ?_
        | refine awl_nil ?_
        | refine aw_seq ?_
        | refine aw_region ?_
        | refine awl_skip rfl rfl ?_
        | refine aw_skip ?_
        | refine awl_valH hτ rfl rfl rfl ?_
      refine awl_need hτ rfl rfl rfl ⟨by omega, by omega, by omega, takenD_length hk⟩ ?_
      refine awl_elem hτ rfl rfl rfl (takenD_length hk) (e := [.int .i64 (us.getD k 0)]) ?_ rfl ?_
      · show (takenD us k)[0 + (k : Int).toNat]? = _
        rw [show 0 + (k : Int).toNat = k by omega]
        exact takenD_get (by omega)
      repeat first
        | refine awl_val hτ rfl rfl rfl ?_
        | refine awl_nil ?_
        | refine aw_seq ?_
        | refine aw_region ?_
        | refine awl_skip rfl rfl ?_
        | refine aw_skip ?_
        | refine awl_valH hτ rfl rfl rfl ?_
      refine awl_need hτ rfl rfl rfl ⟨by omega, by omega, by omega, takenD_length hk⟩ ?_
      refine awl_elemH hτ rfl rfl rfl (takenD_length hk) (e := [.int .i64 (us.getD k 0)]) ?_ rfl ?_
      · show (takenD us k)[0 + (k : Int).toNat]? = _
        rw [show 0 + (k : Int).toNat = k by omega]
        exact takenD_get (by omega)
      repeat first
        | refine awl_val hτ rfl rfl rfl ?_
        | refine awl_nil ?_
        | refine aw_seq ?_
        | refine aw_region ?_
        | refine awl_skip rfl rfl ?_
        | refine aw_skip ?_
        | refine awl_valH hτ rfl rfl rfl ?_
      have ek : IntKind.wrap .i64 ((k : Int) + 1) = ((k + 1 : Nat) : Int) := by rw [wrap_id _ (by omega) (by omega)]; omega
      refine ⟨((takenD us k).set (0 + (k : Int).toNat) [.int .i64 (IntKind.wrap .i64 (us.getD k 0 - us.getD (k : Int).toNat 0))], IntKind.wrap .i64 ((k : Int) + 1)), ⟨k + 1, ek, by omega, ?_⟩, ?_, weak_ofP [0, 1] rfl (by simp) rfl (by repeat' first | exact trivial | refine ⟨?_, ?_⟩) ⟨rfl, trivial, rfl, trivial, rfl, trivial, rfl, trivial, rfl, trivial, rfl, trivial, rfl, trivial, rfl, trivial, trivial⟩⟩
      · show (takenD us k).set (0 + (k : Int).toNat) [.int .i64 (IntKind.wrap .i64 (us.getD k 0 - us.getD (k : Int).toNat 0))] = takenD us (k + 1)
        rw [show 0 + (k : Int).toNat = k by omega, show (k : Int).toNat = k by omega, Int.sub_self, wrap_id 0 (by decide) (by decide)]
        exact takenD_set (by omega)
      · show us.length - (IntKind.wrap .i64 ((k : Int) + 1)).toNat < us.length - (k : Int).toNat
        rw [ek]; omega
    · refine aw_exit ?_
      simp only [decide_eq_false_iff_not] at hd2
      have hkl : k = us.length := by omega
      subst hkl
      repeat first
        | refine awl_val hτ rfl rfl rfl ?_
        | refine awl_nil ?_
        | refine aw_seq ?_
        | refine aw_region ?_
        | refine awl_skip rfl rfl ?_
        | refine aw_skip ?_
        | refine awl_valH hτ rfl rfl rfl ?_
      exact ⟨(takenD us us.length, 1), .inr ⟨rfl, rfl⟩, (by show 1 - (1 : Int).toNat < 1 - (0 : Int).toNat; decide), weak_ofP [0, 1] rfl (by simp) rfl (by repeat' first | exact trivial | refine ⟨?_, ?_⟩) ⟨rfl, trivial, rfl, trivial, rfl, trivial, rfl, trivial, rfl, trivial, trivial⟩⟩
  · refine aw_exit ?_
    obtain ⟨rfl, rfl⟩ : x = 1 ∧ es = takenD us us.length := by
      rcases hI with ⟨rfl, _⟩ | h
      · cases hc
      · exact h
    repeat first
      | refine awl_val hτ rfl rfl rfl ?_
      | refine awl_nil ?_
      | refine aw_seq ?_
      | refine aw_region ?_
      | refine awl_skip rfl rfl ?_
      | refine aw_skip ?_
      | refine awl_valH hτ rfl rfl rfl ?_
    refine aw_ret ?_
    refine ret_objs (.inr rfl) [1] (new := [_]) (objs' := []) rfl (by simp) (by simp) rfl (by repeat' first | exact trivial | refine ⟨?_, ?_⟩) rfl rfl (by repeat' first | exact trivial | refine ⟨?_, ?_⟩) (fun h => nomatch h) ⟨rfl, rfl, ?_⟩
    rw [takenD, List.drop_length, List.append_nil]
end Go.Proofs.Ytolggocnbakokaa.AWN

namespace Go.Proofs.Ytolggocnbakokaa.AWN
open Go Go.Proofs.Try

theorem wrap_u64 (n : Int) (h0 : 0 ≤ n) (h1 : n < 18446744073709551616) : IntKind.wrap .u64 n = n := by
  simp only [IntKind.wrap, IntKind.signed, IntKind.bits]
  simp
  omega
theorem and_255 (a : Int) : 0 ≤ ibits .and .u64 a 255 ∧ ibits .and .u64 a 255 ≤ 255 := by
  have h1 : (BitVec.ofInt 64 a &&& BitVec.ofInt 64 255).toNat ≤ 255 := by
    rw [BitVec.toNat_and]
    exact Nat.le_trans Nat.and_le_right (by decide)
  have e : ibits .and .u64 a 255 = ((BitVec.ofInt 64 a &&& BitVec.ofInt 64 255).toNat : Int) := by
    show IntKind.wrap .u64 (((BitVec.ofInt 64 a &&& BitVec.ofInt 64 255).toNat : Nat) : Int) = _
    exact wrap_u64 _ (by omega) (by omega)
  rw [e]; omega
theorem nxB_range (bs : List UInt8) (i : Int) : 0 ≤ nxB bs i ∧ nxB bs i ≤ 255 := by
  unfold nxB
  split
  · have := (bs.getD i.toNat 0).toNat_lt; omega
  · omega
theorem nxV_range (bs : List UInt8) (i seed : Int) : 0 ≤ nxV bs i seed ∧ nxV bs i seed ≤ 255 := by
  unfold nxV
  split
  · exact nxB_range bs i
  · have := and_255 ((nxSeed bs i seed).fdiv (2 ^ min (40 : Int).toNat 64))
    rw [wrap_id _ (by omega) (by omega)]; exact this
theorem pkX_nonneg (bs : List UInt8) (i seed n : Int) : 0 ≤ pkX bs i seed n := by
  have a := nxV_range bs i seed
  have b := nxV_range bs (i + 1) (nxSeed bs i seed)
  unfold pkX
  split
  · rw [wrap_id (nxV bs i seed * 256) (by omega) (by omega), wrap_id _ (by omega) (by omega)]; omega
  · exact a.1
theorem pkV_range (bs : List UInt8) (i seed n : Int) (hn : 1 ≤ n) : 0 ≤ pkV bs i seed n ∧ pkV bs i seed n < n := by
  have h := pkX_nonneg bs i seed n
  unfold pkV
  split
  · omega
  · rw [Int.tmod_eq_emod_of_nonneg h]
    exact ⟨Int.emod_nonneg _ (by omega), Int.emod_lt_of_pos _ (by omega)⟩
theorem pkI_range (bs : List UInt8) (i seed n : Int) : i ≤ pkI bs i seed n ∧ pkI bs i seed n ≤ i + 2 := by
  unfold pkI; split
  · omega
  · split <;> omega

theorem exV_meter {ρ : Nat → Option Nat} {H : Nat → AObj} {j L sz : Nat} {a : D} {es : List (List D)} (hr : ρ j = none) (hj : H j = .row sz es) (hl : es.length = L) : exV ρ H true (.agg [.d a, .row j L 0 L]) = some (.agg [.d a, .d (.sl false es)]) := by
  subst hl
  simp [exV, exA, exC, mapO, hr, hj]

theorem meter_ok (t : Bool) (bs : List UInt8) (n : Nat) (h0 : 0 < n) (h1 : n ≤ 100) : ACall prog false 19 [.d (.sl t (byteD bs)), .d (.int .i64 n)] []
    (fun r o new => (∃ (dg : Nat) (rs : List Int), r = mtV dg false rs ∧ GoodM dg rs ∧ dg ≤ 3 ∧ rs.length = n) ∧ o = [] ∧ new = []) := by
  refine acall_of_aw hτ func19 rfl (by simp) (by simp) ?_
  repeat first
    | refine awl_val hτ rfl rfl rfl ?_
    | refine awl_nil ?_
    | refine aw_seq ?_
    | refine aw_region ?_
    | refine awl_skip rfl rfl ?_
    | refine aw_skip ?_
    | refine awl_valH hτ rfl rfl rfl ?_
  refine awl_callP hτ false [] rfl rfl rfl (enterOk func44 rfl rfl) rfl rfl (by simp) (by repeat' first | exact trivial | refine ⟨?_, ?_⟩) (by repeat' first | exact trivial | refine ⟨?_, ?_⟩) (from_ok t bs) ?_
  rintro r o new ⟨rfl, rfl, rfl⟩ -
  repeat first
    | refine awl_val hτ rfl rfl rfl ?_
    | refine awl_nil ?_
    | refine aw_seq ?_
    | refine aw_region ?_
    | refine awl_skip rfl rfl ?_
    | refine aw_skip ?_
    | refine awl_valH hτ rfl rfl rfl ?_
  refine awl_callP hτ false [1] rfl rfl rfl (enterOk func52 rfl rfl) rfl rfl (by simp) (by repeat' first | exact trivial | refine ⟨?_, ?_⟩) (by repeat' first | exact trivial | refine ⟨?_, ?_⟩) (pick_ok t bs 0 0 3 (by decide)) ?_
  rintro r o new ⟨rfl, rfl, rfl⟩ -
  repeat first
    | refine awl_val hτ rfl rfl rfl ?_
    | refine awl_nil ?_
    | refine aw_seq ?_
    | refine aw_region ?_
    | refine awl_skip rfl rfl ?_
    | refine aw_skip ?_
    | refine awl_valH hτ rfl rfl rfl ?_
  have hr := pkV_range bs 0 0 3 (by decide)
  have hi0 := pkI_range bs 0 0 3
  obtain ⟨dg, hdg⟩ : ∃ dg : Nat, IntKind.wrap .i64 (1 + pkV bs 0 0 3) = dg := ⟨(1 + pkV bs 0 0 3).toNat, by rw [wrap_id _ (by omega) (by omega)]; omega⟩
  have hd : 1 ≤ dg ∧ dg ≤ 3 := by
    rw [wrap_id _ (by omega) (by omega)] at hdg; omega
  refine aw_block ?_
  refine aw_loop (ι := Option (Nat × List (List D)) × Int × Int × Int) (fun x => match x with
    | (none, i, seed, x) => St.of [(1, .d (.int .i64 x)), (4, .ptr 0 0), (5, .ptr 1 0), (6, .ptr 2 0)] [.box [.d (.int .i64 0), .d .nils], srcO t bs i seed, .box [.d (.int .i64 dg), .d .nils]] f19.ntmps 0
    | (some (L, es), i, seed, x) => St.of [(1, .d (.int .i64 x)), (4, .ptr 0 0), (5, .ptr 1 0), (6, .ptr 2 0)] [.box [.d (.int .i64 0), .d .nils], srcO t bs i seed, .box [.d (.int .i64 dg), .row 3 L 0 L], .row 1 es] f19.ntmps 0)
    (fun x => ∃ m : Nat, x.2.2.2 = m ∧ m ≤ n ∧ 0 ≤ x.2.1 ∧ x.2.1 ≤ 2 * (n - m) + 2 ∧ match x.1 with
      | none => m = n
      | some (L, es) => ∃ rs : List Int, es = intD rs ∧ L = rs.length ∧ rs.length = n - m ∧ ∀ j, j < rs.length → 0 ≤ rs.getD j 0 ∧ rs.getD j 0 < (10 ^ dg : Nat)) (fun x => x.2.2.2.toNat)
    (none, pkI bs 0 0 3, pkSeed bs 0 0 3, n) ⟨n, rfl, Nat.le_refl _, hi0.1, by show pkI bs 0 0 3 ≤ _; omega, rfl⟩
    (weak_ofP [0, 1, 2] rfl (by simp) (by rw [← hdg]; rfl) (by repeat' first | exact trivial | refine ⟨?_, ?_⟩) ⟨rfl, trivial, rfl, trivial, rfl, trivial, rfl, trivial, trivial⟩) ?_
  have hpw : (1 : Int) ≤ (10 ^ dg : Nat) := by
    have : 0 < 10 ^ dg := Nat.pow_pos (by decide)
    omega
  rintro ⟨_ | ⟨L, es⟩, i, seed, x⟩ ⟨m, hx, hm, hi', hi2', hrest⟩
  · have hx' : x = m := hx
    have hi : 0 ≤ i := hi'
    have hi2 : i ≤ 2 * (n - m) + 2 := hi2'
    subst hx'
    have hmn : m = n := hrest
    subst hmn
    repeat first
      | refine awl_val hτ rfl rfl rfl ?_
      | refine awl_nil ?_
      | refine aw_seq ?_
      | refine aw_region ?_
      | refine awl_skip rfl rfl ?_
      | refine aw_skip ?_
      | refine awl_valH hτ rfl rfl rfl ?_
    refine aw_cond rfl (fun hc => ?_) (fun hc => ?_)
    · repeat first
        | refine awl_val hτ rfl rfl rfl ?_
        | refine awl_nil ?_
        | refine aw_seq ?_
        | refine aw_region ?_
        | refine awl_skip rfl rfl ?_
        | refine aw_skip ?_
        | refine awl_valH hτ rfl rfl rfl ?_
      refine aw_block ?_
      repeat first
        | refine awl_val hτ rfl rfl rfl ?_
        | refine awl_nil ?_
        | refine aw_seq ?_
        | refine aw_region ?_
        | refine awl_skip rfl rfl ?_
        | refine aw_skip ?_
        | refine awl_valH hτ rfl rfl rfl ?_
      have hpk := pkV_range bs i seed _ hpw
      have hpi := pkI_range bs i seed (10 ^ dg : Nat)
      refine any_start ?_
      refine any_val hτ [2] 0 rfl rfl rfl rfl rfl ?_
      refine any_val hτ [2] 1 rfl rfl rfl rfl rfl ?_
      refine any_val hτ [2] 2 rfl rfl rfl rfl rfl ?_
      refine any_val hτ [2] 3 rfl rfl rfl rfl rfl ?_
      refine any_val hτ [2] 4 rfl rfl rfl rfl rfl ?_
      refine any_callP hτ false [] [2] 5 rfl rfl rfl rfl (enterOk func55 rfl rfl) rfl rfl (by simp) (by repeat' first | exact trivial | refine ⟨?_, ?_⟩) (by repeat' first | exact trivial | refine ⟨?_, ?_⟩) (power_ok dg (by omega)) ⟨rfl, trivial⟩ ?_
      refine any_callP hτ false [1] [2] 6 rfl rfl rfl rfl (enterOk func52 rfl rfl) rfl rfl (by simp) (by repeat' first | exact trivial | refine ⟨?_, ?_⟩) (by repeat' first | exact trivial | refine ⟨?_, ?_⟩) (pick_ok t bs i seed _ (by omega)) ⟨rfl, trivial⟩ ?_
      refine any_valHP hτ [2] 7 rfl rfl rfl rfl ⟨rfl, trivial⟩ ?_
      refine any_needHP hτ [2] 8 rfl rfl rfl rfl ⟨⟨rfl, by decide⟩, (show 1 * 8 ≤ 140737488355328 by decide), by decide, by simp, fun y hy => by rw [List.mem_singleton.1 hy]; rfl⟩ ⟨rfl, trivial⟩ ?_
      refine any_val hτ [2] 9 rfl rfl rfl rfl rfl ?_
      refine any_valHP hτ [] 10 rfl rfl rfl rfl trivial ?_
      refine any_done mixed (by kernel_rfl) ?_
      repeat first
        | refine awl_val hτ rfl rfl rfl ?_
        | refine awl_nil ?_
        | refine aw_seq ?_
        | refine aw_region ?_
        | refine awl_skip rfl rfl ?_
        | refine aw_skip ?_
        | refine awl_valH hτ rfl rfl rfl ?_
      have em : IntKind.wrap .i64 ((m : Int) - 1) = ((m - 1 : Nat) : Int) := by rw [wrap_id _ (by omega) (by omega)]; omega
      refine ⟨(some (1, [[.int .i64 (pkV bs i seed (10 ^ dg : Nat))]]), pkI bs i seed (10 ^ dg : Nat), pkSeed bs i seed (10 ^ dg : Nat), IntKind.wrap .i64 ((m : Int) - 1)), ⟨m - 1, em, by omega, by show 0 ≤ pkI bs i seed (10 ^ dg : Nat); omega, ?_, [pkV bs i seed (10 ^ dg : Nat)], rfl, rfl, ?_, ?_⟩, ?_, weak_ofP [0, 1, 2, 4] rfl (by simp) rfl (by repeat' first | exact trivial | refine ⟨?_, ?_⟩) ⟨rfl, trivial, rfl, trivial, rfl, trivial, rfl, trivial, trivial⟩⟩
      · show pkI bs i seed (10 ^ dg : Nat) ≤ 2 * ((m : Int) - ((m - 1 : Nat) : Int)) + 2
        omega
      · show 1 = m - (m - 1)
        omega
      · intro j hj
        have : j = 0 := by simpa using hj
        subst this
        exact hpk
      · show (IntKind.wrap .i64 ((m : Int) - 1)).toNat < (m : Int).toNat
        rw [em]; omega
    · simp only [decide_eq_false_iff_not] at hc
      omega
  · have hx' : x = m := hx
    have hi : 0 ≤ i := hi'
    have hi2 : i ≤ 2 * (n - m) + 2 := hi2'
    subst hx'
    obtain ⟨rs, hes, hL, hlen, hrs⟩ : ∃ rs : List Int, es = intD rs ∧ L = rs.length ∧ rs.length = n - m ∧ ∀ j, j < rs.length → 0 ≤ rs.getD j 0 ∧ rs.getD j 0 < (10 ^ dg : Nat) := hrest
    subst hes hL
    repeat first
      | refine awl_val hτ rfl rfl rfl ?_
      | refine awl_nil ?_
      | refine aw_seq ?_
      | refine aw_region ?_
      | refine awl_skip rfl rfl ?_
      | refine aw_skip ?_
      | refine awl_valH hτ rfl rfl rfl ?_
    refine aw_cond rfl (fun hc => ?_) (fun hc => ?_)
    · simp only [decide_eq_true_eq] at hc
      repeat first
        | refine awl_val hτ rfl rfl rfl ?_
        | refine awl_nil ?_
        | refine aw_seq ?_
        | refine aw_region ?_
        | refine awl_skip rfl rfl ?_
        | refine aw_skip ?_
        | refine awl_valH hτ rfl rfl rfl ?_
      refine aw_block ?_
      repeat first
        | refine awl_val hτ rfl rfl rfl ?_
        | refine awl_nil ?_
        | refine aw_seq ?_
        | refine aw_region ?_
        | refine awl_skip rfl rfl ?_
        | refine aw_skip ?_
        | refine awl_valH hτ rfl rfl rfl ?_
      have hpk := pkV_range bs i seed _ hpw
      have hpi := pkI_range bs i seed (10 ^ dg : Nat)
      refine any_start ?_
      refine any_val hτ [2] 0 rfl rfl rfl rfl rfl ?_
      refine any_val hτ [2] 1 rfl rfl rfl rfl rfl ?_
      refine any_val hτ [2] 2 rfl rfl rfl rfl rfl ?_
      refine any_val hτ [2] 3 rfl rfl rfl rfl rfl ?_
      refine any_val hτ [2] 4 rfl rfl rfl rfl rfl ?_
      refine any_callP hτ false [] [2] 5 rfl rfl rfl rfl (enterOk func55 rfl rfl) rfl rfl (by simp) (by repeat' first | exact trivial | refine ⟨?_, ?_⟩) (by repeat' first | exact trivial | refine ⟨?_, ?_⟩) (power_ok dg (by omega)) ⟨rfl, trivial⟩ ?_
      refine any_callP hτ false [1] [2] 6 rfl rfl rfl rfl (enterOk func52 rfl rfl) rfl rfl (by simp) (by repeat' first | exact trivial | refine ⟨?_, ?_⟩) (by repeat' first | exact trivial | refine ⟨?_, ?_⟩) (pick_ok t bs i seed _ (by omega)) ⟨rfl, trivial⟩ ?_
      refine any_valHP hτ [2] 7 rfl rfl rfl rfl ⟨rfl, trivial⟩ ?_
      have room : (rs.length + 1) * 8 ≤ 140737488355328 := by omega
      refine any_needHP hτ [2] 8 rfl rfl rfl rfl ⟨⟨rfl, by decide⟩, intD_length _, rfl, rfl, room, by decide, fun y hy => by rw [List.mem_singleton.1 hy]; rfl⟩ ⟨rfl, trivial⟩ ?_
      refine any_val hτ [2] 9 rfl rfl rfl rfl rfl ?_
      refine any_valHP hτ [] 10 rfl rfl rfl rfl trivial ?_
      refine any_done mixed (by kernel_rfl) ?_
      repeat first
        | refine awl_val hτ rfl rfl rfl ?_
        | refine awl_nil ?_
        | refine aw_seq ?_
        | refine aw_region ?_
        | refine awl_skip rfl rfl ?_
        | refine aw_skip ?_
        | refine awl_valH hτ rfl rfl rfl ?_
      have em : IntKind.wrap .i64 ((m : Int) - 1) = ((m - 1 : Nat) : Int) := by rw [wrap_id _ (by omega) (by omega)]; omega
      refine ⟨(some (rs.length + 1, intD rs ++ [[.int .i64 (pkV bs i seed (10 ^ dg : Nat))]]), pkI bs i seed (10 ^ dg : Nat), pkSeed bs i seed (10 ^ dg : Nat), IntKind.wrap .i64 ((m : Int) - 1)), ⟨m - 1, em, by omega, by show 0 ≤ pkI bs i seed (10 ^ dg : Nat); omega, ?_, rs ++ [pkV bs i seed (10 ^ dg : Nat)], by simp [intD], by simp, ?_, ?_⟩, ?_, weak_ofP [0, 1, 2, 3] rfl (by simp) rfl (by repeat' first | exact trivial | refine ⟨?_, ?_⟩) ⟨rfl, trivial, rfl, trivial, rfl, trivial, rfl, trivial, trivial⟩⟩
      · show pkI bs i seed (10 ^ dg : Nat) ≤ 2 * (n - ((m - 1 : Nat) : Int)) + 2
        omega
      · rw [List.length_append, List.length_singleton]
        omega
      · intro j hj
        rw [List.length_append, List.length_singleton] at hj
        rw [List.getD_eq_getElem?_getD, List.getElem?_append]
        by_cases hjl : j < rs.length
        · rw [if_pos hjl, ← List.getD_eq_getElem?_getD]; exact hrs j hjl
        · rw [if_neg hjl, show j - rs.length = 0 by omega]; exact hpk
      · show (IntKind.wrap .i64 ((m : Int) - 1)).toNat < (m : Int).toNat
        rw [em]; omega
    · refine aw_exit ?_
      simp only [decide_eq_false_iff_not] at hc
      have hm0 : (m : Int) = 0 := by omega
      repeat first
        | refine awl_val hτ rfl rfl rfl ?_
        | refine awl_nil ?_
        | refine aw_seq ?_
        | refine aw_region ?_
        | refine awl_skip rfl rfl ?_
        | refine aw_skip ?_
        | refine awl_valH hτ rfl rfl rfl ?_
      refine aw_ret ?_
      refine ret_data (.inr rfl) (r := mtV dg false rs) rfl ?_ ?_ (fun h => nomatch h) ⟨⟨dg, rs, rfl, ⟨hd.1, by omega, by omega, hrs⟩, hd.2, by omega⟩, rfl, rfl⟩
      · exact exV_meter rfl rfl (intD_length _)
      · exact ⟨trivial, intD_length _, by omega⟩
end Go.Proofs.Ytolggocnbakokaa.AWN

namespace Go.Proofs.Ytolggocnbakokaa.AWN
open Go Go.Proofs.Try

def b3 (c : Int × Int × Int) : List (List D) := [[.int .i64 c.1], [.int .i64 c.2.1], [.int .i64 c.2.2]]
def up3 (c : Int × Int × Int) (y : Nat) : Int × Int × Int := match y with
  | 0 => (IntKind.wrap .i64 (c.1 + 1), c.2.1, c.2.2)
  | 1 => (c.1, IntKind.wrap .i64 (c.2.1 + 1), c.2.2)
  | _ => (c.1, c.2.1, IntKind.wrap .i64 (c.2.2 + 1))

theorem bands_ok (dg : Nat) (t : Bool) (rs : List Int) (hg : GoodM dg rs) (a b : Int) (hab : a < b) : ACall prog false 23 [mtV dg t rs, .d (.sl false (intD [a, b]))] []
    (fun r o new => (∃ c0 c1 c2 : Int, 0 ≤ c0 ∧ 0 ≤ c1 ∧ 0 ≤ c2 ∧ c0 + c1 + c2 = (usesS (10 ^ dg : Nat) rs).length ∧ new = [.row 1 (b3 (c0, c1, c2))]) ∧ r = .tup [.row 0 3 0 3, .d (.bool true)] ∧ o = []) := by
  have hl := hg.len
  have hus := hg.small
  refine acall_of_aw hτ func23 rfl (by simp) (by simp) ?_
  repeat first
    | refine awl_val hτ rfl rfl rfl ?_
    | refine awl_nil ?_
    | refine aw_seq ?_
    | refine aw_region ?_
    | refine awl_skip rfl rfl ?_
    | refine aw_skip ?_
    | refine awl_valH hτ rfl rfl rfl ?_
  refine awl_callP hτ false [] rfl rfl rfl (enterOk func26 rfl rfl) rfl rfl (by simp) (by repeat' first | exact trivial | refine ⟨?_, ?_⟩) (by repeat' first | exact trivial | refine ⟨?_, ?_⟩) (valid_ok dg hg.nine t rs (by omega)) ?_
  rw [hg.valid]
  rintro r o new ⟨rfl, rfl, rfl⟩ -
  repeat first
    | refine awl_val hτ rfl rfl rfl ?_
    | refine awl_nil ?_
    | refine aw_seq ?_
    | refine aw_region ?_
    | refine awl_skip rfl rfl ?_
    | refine aw_skip ?_
    | refine awl_valH hτ rfl rfl rfl ?_
  refine aw_cond rfl (fun hd => nomatch hd) (fun hd => ?_)
  repeat first
    | refine awl_val hτ rfl rfl rfl ?_
    | refine awl_nil ?_
    | refine aw_seq ?_
    | refine aw_region ?_
    | refine awl_skip rfl rfl ?_
    | refine aw_skip ?_
    | refine awl_valH hτ rfl rfl rfl ?_
  refine aw_block ?_
  refine aw_loop (ι := Int) (fun x => St.of [(1, .d (.sl false (intD [a, b]))), (2, .ptr 0 0), (6, .d (.int .i64 x))] [mtO dg t rs] f23.ntmps 0)
    (fun x => x = 1 ∨ x = 2) (fun x => 2 - x.toNat) 1 (.inl rfl)
    (weak_ofP [0] rfl (by simp) rfl (by repeat' first | exact trivial | refine ⟨?_, ?_⟩) ⟨rfl, trivial, rfl, trivial, rfl, trivial, trivial⟩) ?_
  rintro x (rfl | rfl)
  · repeat first
      | refine awl_val hτ rfl rfl rfl ?_
      | refine awl_nil ?_
      | refine aw_seq ?_
      | refine aw_region ?_
      | refine awl_skip rfl rfl ?_
      | refine aw_skip ?_
      | refine awl_valH hτ rfl rfl rfl ?_
    refine aw_cond rfl (fun hc => ?_) (fun hc => nomatch hc)
    repeat first
      | refine awl_val hτ rfl rfl rfl ?_
      | refine awl_nil ?_
      | refine aw_seq ?_
      | refine aw_region ?_
      | refine awl_skip rfl rfl ?_
      | refine aw_skip ?_
      | refine awl_valH hτ rfl rfl rfl ?_
    refine aw_block ?_
    repeat first
      | refine awl_val hτ rfl rfl rfl ?_
      | refine awl_nil ?_
      | refine aw_seq ?_
      | refine aw_region ?_
      | refine awl_skip rfl rfl ?_
      | refine aw_skip ?_
      | refine awl_valH hτ rfl rfl rfl ?_
    refine any_start ?_
    refine any_val hτ [] 0 rfl rfl rfl rfl rfl ?_
    refine any_val hτ [] 1 rfl rfl rfl rfl rfl ?_
    refine any_val hτ [] 2 rfl rfl rfl rfl rfl ?_
    refine any_elem hτ [] 3 rfl rfl rfl rfl rfl (by decide) (e := [.int .i64 a]) rfl rfl ?_
    refine any_val hτ [] 4 rfl rfl rfl rfl rfl ?_
    refine any_val hτ [] 5 rfl rfl rfl rfl rfl ?_
    refine any_val hτ [] 6 rfl rfl rfl rfl rfl ?_
    refine any_elem hτ [] 7 rfl rfl rfl rfl rfl (by decide) (e := [.int .i64 b]) rfl rfl ?_
    refine any_val hτ [] 8 rfl rfl rfl rfl rfl ?_
    refine any_val hτ [] 9 rfl rfl rfl rfl rfl ?_
    refine any_done mixed (by kernel_rfl) ?_
    repeat first
      | refine awl_val hτ rfl rfl rfl ?_
      | refine awl_nil ?_
      | refine aw_seq ?_
      | refine aw_region ?_
      | refine awl_skip rfl rfl ?_
      | refine aw_skip ?_
      | refine awl_valH hτ rfl rfl rfl ?_
    refine aw_cond rfl (fun hd => ?_) (fun hd => ?_)
    · have hd' : decide (a ≥ b) = true := hd
      simp only [decide_eq_true_eq] at hd'
      omega
    repeat first
      | refine awl_val hτ rfl rfl rfl ?_
      | refine awl_nil ?_
      | refine aw_seq ?_
      | refine aw_region ?_
      | refine awl_skip rfl rfl ?_
      | refine aw_skip ?_
      | refine awl_valH hτ rfl rfl rfl ?_
    exact ⟨2, .inr rfl, by decide, weak_ofP [0] rfl (by simp) rfl (by repeat' first | exact trivial | refine ⟨?_, ?_⟩) ⟨rfl, trivial, rfl, trivial, rfl, trivial, trivial⟩⟩
  repeat first
    | refine awl_val hτ rfl rfl rfl ?_
    | refine awl_nil ?_
    | refine aw_seq ?_
    | refine aw_region ?_
    | refine awl_skip rfl rfl ?_
    | refine aw_skip ?_
    | refine awl_valH hτ rfl rfl rfl ?_
  refine aw_cond rfl (fun hc => nomatch hc) (fun hc => ?_)
  refine aw_exit ?_
  repeat first
    | refine awl_val hτ rfl rfl rfl ?_
    | refine awl_nil ?_
    | refine aw_seq ?_
    | refine aw_region ?_
    | refine awl_skip rfl rfl ?_
    | refine aw_skip ?_
    | refine awl_valH hτ rfl rfl rfl ?_
  refine awl_needH hτ rfl rfl rfl ⟨(by show (0 : Int) ≤ IntKind.wrap .i64 (((2 : Nat) : Int) + 1); decide), rfl, (by show IntKind.wrap .i64 (((2 : Nat) : Int) + 1) * ((8 : Nat) : Int) ≤ 140737488355328; decide), by decide⟩ ?_
  repeat first
    | refine awl_val hτ rfl rfl rfl ?_
    | refine awl_nil ?_
    | refine aw_seq ?_
    | refine aw_region ?_
    | refine awl_skip rfl rfl ?_
    | refine aw_skip ?_
    | refine awl_valH hτ rfl rfl rfl ?_
  refine awl_callP hτ false [0] rfl rfl rfl (enterOk func56 rfl rfl) rfl rfl (by simp) (by repeat' first | exact trivial | refine ⟨?_, ?_⟩) (by repeat' first | exact trivial | refine ⟨?_, ?_⟩) (uses_ok dg hg.nine t rs hg.len hg.ok) ?_
  rintro r o new ⟨rfl, rfl, rfl⟩ -
  generalize hU : usesS (10 ^ dg : Nat) rs = us at *
  have hul := hus.1
  refine awl_need hτ rfl rfl rfl (intD_length _) ?_
  repeat first
    | refine awl_val hτ rfl rfl rfl ?_
    | refine awl_nil ?_
    | refine aw_seq ?_
    | refine aw_region ?_
    | refine awl_skip rfl rfl ?_
    | refine aw_skip ?_
    | refine awl_valH hτ rfl rfl rfl ?_
  refine aw_block ?_
  refine aw_loop (ι := (Int × Int × Int) × Int) (fun (c, x) => St.of [(1, .d (.sl false (intD [a, b]))), (7, .row 0 3 0 3), (39, .d (.sl false (intD us))), (40, .d (.int .i64 us.length)), (41, .d (.int .i64 x))] [.row 1 (b3 c)] f23.ntmps 0)
    (fun (c, x) => ∃ k : Nat, x = k ∧ k ≤ us.length ∧ 0 ≤ c.1 ∧ 0 ≤ c.2.1 ∧ 0 ≤ c.2.2 ∧ c.1 + c.2.1 + c.2.2 = k) (fun (c, x) => us.length - x.toNat) ((0, 0, 0), 0) ⟨0, rfl, Nat.zero_le _, by simp, by simp, by simp, by simp⟩
    (weak_ofP [1] rfl (by simp) rfl (by repeat' first | exact trivial | refine ⟨?_, ?_⟩) ⟨rfl, trivial, rfl, trivial, exV_row rfl rfl (intD_length _), ⟨intD_length _, by omega⟩, rfl, trivial, rfl, trivial, trivial⟩) ?_
  rintro ⟨⟨c0, c1, c2⟩, _⟩ ⟨k, rfl, hk, p0, p1, p2, hsum⟩
  have p0' : 0 ≤ c0 := p0
  have p1' : 0 ≤ c1 := p1
  have p2' : 0 ≤ c2 := p2
  have hsum' : c0 + c1 + c2 = k := hsum
  repeat first
    | refine awl_val hτ rfl rfl rfl ?_
    | refine awl_nil ?_
    | refine aw_seq ?_
    | refine aw_region ?_
    | refine awl_skip rfl rfl ?_
    | refine aw_skip ?_
    | refine awl_valH hτ rfl rfl rfl ?_
  refine aw_cond rfl (fun hc => ?_) (fun hc => ?_)
  · simp only [decide_eq_true_eq] at hc
    repeat first
      | refine awl_val hτ rfl rfl rfl ?_
      | refine awl_nil ?_
      | refine aw_seq ?_
      | refine aw_region ?_
      | refine awl_skip rfl rfl ?_
      | refine aw_skip ?_
      | refine awl_valH hτ rfl rfl rfl ?_
    refine aw_block ?_
    repeat first
      | refine awl_val hτ rfl rfl rfl ?_
      | refine awl_nil ?_
      | refine aw_seq ?_
      | refine aw_region ?_
      | refine awl_skip rfl rfl ?_
      | refine aw_skip ?_
      | refine awl_valH hτ rfl rfl rfl ?_
    refine awl_elem hτ rfl rfl rfl (by omega) (intD_get (by omega)) rfl ?_
    repeat first
      | refine awl_val hτ rfl rfl rfl ?_
      | refine awl_nil ?_
      | refine aw_seq ?_
      | refine aw_region ?_
      | refine awl_skip rfl rfl ?_
      | refine aw_skip ?_
      | refine awl_valH hτ rfl rfl rfl ?_
    refine aw_block ?_
    refine aw_loop (ι := Nat) (fun y => St.of [(1, .d (.sl false (intD [a, b]))), (7, .row 0 3 0 3), (9, .d (.int .i64 (us.getD (k : Int).toNat 0))), (10, .d (.int .i64 y)), (39, .d (.sl false (intD us))), (40, .d (.int .i64 us.length)), (41, .d (.int .i64 k))] [.row 1 (b3 (c0, c1, c2))] f23.ntmps 0)
      (fun y => y = 0 ∨ y = 1 ∨ y = 2) (fun y => 2 - y) 0 (.inl rfl)
      (weak_ofP [0] rfl (by simp) rfl (by repeat' first | exact trivial | refine ⟨?_, ?_⟩) ⟨rfl, trivial, rfl, trivial, rfl, trivial, rfl, trivial, rfl, trivial, rfl, trivial, rfl, trivial, trivial⟩) ?_
    rintro y (rfl | rfl | rfl)
    · repeat first
        | refine awl_val hτ rfl rfl rfl ?_
        | refine awl_nil ?_
        | refine aw_seq ?_
        | refine aw_region ?_
        | refine awl_skip rfl rfl ?_
        | refine aw_skip ?_
        | refine awl_valH hτ rfl rfl rfl ?_
      refine awl_elem hτ rfl rfl rfl (by decide) (e := [.int .i64 a]) rfl rfl ?_
      repeat first
        | refine awl_val hτ rfl rfl rfl ?_
        | refine awl_nil ?_
        | refine aw_seq ?_
        | refine aw_region ?_
        | refine awl_skip rfl rfl ?_
        | refine aw_skip ?_
        | refine awl_valH hτ rfl rfl rfl ?_
      refine aw_cond rfl (fun hd => ?_) (fun hd => ?_)
      · repeat first
          | refine awl_val hτ rfl rfl rfl ?_
          | refine awl_nil ?_
          | refine aw_seq ?_
          | refine aw_region ?_
          | refine awl_skip rfl rfl ?_
          | refine aw_skip ?_
          | refine awl_valH hτ rfl rfl rfl ?_
        refine aw_block ?_
        repeat first
          | refine awl_val hτ rfl rfl rfl ?_
          | refine awl_nil ?_
          | refine aw_seq ?_
          | refine aw_region ?_
          | refine awl_skip rfl rfl ?_
          | refine aw_skip ?_
          | refine awl_valH hτ rfl rfl rfl ?_
        exact ⟨1, by decide, by decide, weak_ofP [0] rfl (by simp) rfl (by repeat' first | exact trivial | refine ⟨?_, ?_⟩) ⟨rfl, trivial, rfl, trivial, rfl, trivial, rfl, trivial, rfl, trivial, rfl, trivial, rfl, trivial, trivial⟩⟩
      · refine aw_exit ?_
        repeat first
          | refine awl_val hτ rfl rfl rfl ?_
          | refine awl_nil ?_
          | refine aw_seq ?_
          | refine aw_region ?_
          | refine awl_skip rfl rfl ?_
          | refine aw_skip ?_
          | refine awl_valH hτ rfl rfl rfl ?_
        refine awl_need hτ rfl rfl rfl ⟨by decide, by decide, by decide, rfl⟩ ?_
        refine awl_elem hτ rfl rfl rfl rfl (e := [.int .i64 c0]) rfl rfl ?_
        repeat first
          | refine awl_val hτ rfl rfl rfl ?_
          | refine awl_nil ?_
          | refine aw_seq ?_
          | refine aw_region ?_
          | refine awl_skip rfl rfl ?_
          | refine aw_skip ?_
          | refine awl_valH hτ rfl rfl rfl ?_
        refine awl_need hτ rfl rfl rfl ⟨by decide, by decide, by decide, rfl⟩ ?_
        refine awl_elemH hτ rfl rfl rfl rfl (e := [.int .i64 c0]) rfl rfl ?_
        repeat first
          | refine awl_val hτ rfl rfl rfl ?_
          | refine awl_nil ?_
          | refine aw_seq ?_
          | refine aw_region ?_
          | refine awl_skip rfl rfl ?_
          | refine aw_skip ?_
          | refine awl_valH hτ rfl rfl rfl ?_
        have ek : IntKind.wrap .i64 ((k : Int) + 1) = ((k + 1 : Nat) : Int) := by rw [wrap_id _ (by omega) (by omega)]; omega
        have ew : IntKind.wrap .i64 (c0 + 1) = c0 + 1 := wrap_id _ (by omega) (by omega)
        refine ⟨((IntKind.wrap .i64 (c0 + 1), c1, c2), IntKind.wrap .i64 ((k : Int) + 1)), ⟨k + 1, ek, by omega, ?_, ?_, ?_, ?_⟩, ?_, weak_ofP [0] rfl (by simp) rfl (by repeat' first | exact trivial | refine ⟨?_, ?_⟩) ⟨rfl, trivial, rfl, trivial, rfl, trivial, rfl, trivial, rfl, trivial, trivial⟩⟩
        · first | exact p0' | (show 0 ≤ IntKind.wrap .i64 (c0 + 1); omega)
        · first | exact p1' | (show 0 ≤ IntKind.wrap .i64 (c0 + 1); omega)
        · first | exact p2' | (show 0 ≤ IntKind.wrap .i64 (c0 + 1); omega)
        · show IntKind.wrap .i64 (c0 + 1) + c1 + c2 = ((k + 1 : Nat) : Int)
          omega
        · show us.length - (IntKind.wrap .i64 ((k : Int) + 1)).toNat < us.length - (k : Int).toNat
          rw [ek]; omega
    · repeat first
        | refine awl_val hτ rfl rfl rfl ?_
        | refine awl_nil ?_
        | refine aw_seq ?_
        | refine aw_region ?_
        | refine awl_skip rfl rfl ?_
        | refine aw_skip ?_
        | refine awl_valH hτ rfl rfl rfl ?_
      refine awl_elem hτ rfl rfl rfl (by decide) (e := [.int .i64 b]) rfl rfl ?_
      repeat first
        | refine awl_val hτ rfl rfl rfl ?_
        | refine awl_nil ?_
        | refine aw_seq ?_
        | refine aw_region ?_
        | refine awl_skip rfl rfl ?_
        | refine aw_skip ?_
        | refine awl_valH hτ rfl rfl rfl ?_
      refine aw_cond rfl (fun hd => ?_) (fun hd => ?_)
      · repeat first
          | refine awl_val hτ rfl rfl rfl ?_
          | refine awl_nil ?_
          | refine aw_seq ?_
          | refine aw_region ?_
          | refine awl_skip rfl rfl ?_
          | refine aw_skip ?_
          | refine awl_valH hτ rfl rfl rfl ?_
        refine aw_block ?_
        repeat first
          | refine awl_val hτ rfl rfl rfl ?_
          | refine awl_nil ?_
          | refine aw_seq ?_
          | refine aw_region ?_
          | refine awl_skip rfl rfl ?_
          | refine aw_skip ?_
          | refine awl_valH hτ rfl rfl rfl ?_
        exact ⟨2, by decide, by decide, weak_ofP [0] rfl (by simp) rfl (by repeat' first | exact trivial | refine ⟨?_, ?_⟩) ⟨rfl, trivial, rfl, trivial, rfl, trivial, rfl, trivial, rfl, trivial, rfl, trivial, rfl, trivial, trivial⟩⟩
      · refine aw_exit ?_
        repeat first
          | refine awl_val hτ rfl rfl rfl ?_
          | refine awl_nil ?_
          | refine aw_seq ?_
          | refine aw_region ?_
          | refine awl_skip rfl rfl ?_
          | refine aw_skip ?_
          | refine awl_valH hτ rfl rfl rfl ?_
        refine awl_need hτ rfl rfl rfl ⟨by decide, by decide, by decide, rfl⟩ ?_
        refine awl_elem hτ rfl rfl rfl rfl (e := [.int .i64 c1]) rfl rfl ?_
        repeat first
          | refine awl_val hτ rfl rfl rfl ?_
          | refine awl_nil ?_
          | refine aw_seq ?_
          | refine aw_region ?_
          | refine awl_skip rfl rfl ?_
          | refine aw_skip ?_
          | refine awl_valH hτ rfl rfl rfl ?_
        refine awl_need hτ rfl rfl rfl ⟨by decide, by decide, by decide, rfl⟩ ?_
        refine awl_elemH hτ rfl rfl rfl rfl (e := [.int .i64 c1]) rfl rfl ?_
        repeat first
          | refine awl_val hτ rfl rfl rfl ?_
          | refine awl_nil ?_
          | refine aw_seq ?_
          | refine aw_region ?_
          | refine awl_skip rfl rfl ?_
          | refine aw_skip ?_
          | refine awl_valH hτ rfl rfl rfl ?_
        have ek : IntKind.wrap .i64 ((k : Int) + 1) = ((k + 1 : Nat) : Int) := by rw [wrap_id _ (by omega) (by omega)]; omega
        have ew : IntKind.wrap .i64 (c1 + 1) = c1 + 1 := wrap_id _ (by omega) (by omega)
        refine ⟨((c0, IntKind.wrap .i64 (c1 + 1), c2), IntKind.wrap .i64 ((k : Int) + 1)), ⟨k + 1, ek, by omega, ?_, ?_, ?_, ?_⟩, ?_, weak_ofP [0] rfl (by simp) rfl (by repeat' first | exact trivial | refine ⟨?_, ?_⟩) ⟨rfl, trivial, rfl, trivial, rfl, trivial, rfl, trivial, rfl, trivial, trivial⟩⟩
        · first | exact p0' | (show 0 ≤ IntKind.wrap .i64 (c1 + 1); omega)
        · first | exact p1' | (show 0 ≤ IntKind.wrap .i64 (c1 + 1); omega)
        · first | exact p2' | (show 0 ≤ IntKind.wrap .i64 (c1 + 1); omega)
        · show c0 + IntKind.wrap .i64 (c1 + 1) + c2 = ((k + 1 : Nat) : Int)
          omega
        · show us.length - (IntKind.wrap .i64 ((k : Int) + 1)).toNat < us.length - (k : Int).toNat
          rw [ek]; omega
    · repeat first
        | refine awl_val hτ rfl rfl rfl ?_
        | refine awl_nil ?_
        | refine aw_seq ?_
        | refine aw_region ?_
        | refine awl_skip rfl rfl ?_
        | refine aw_skip ?_
        | refine awl_valH hτ rfl rfl rfl ?_
      refine aw_cond rfl (fun hd => nomatch hd) (fun hd => ?_)
      refine aw_exit ?_
      repeat first
        | refine awl_val hτ rfl rfl rfl ?_
        | refine awl_nil ?_
        | refine aw_seq ?_
        | refine aw_region ?_
        | refine awl_skip rfl rfl ?_
        | refine aw_skip ?_
        | refine awl_valH hτ rfl rfl rfl ?_
      refine awl_need hτ rfl rfl rfl ⟨by decide, by decide, by decide, rfl⟩ ?_
      refine awl_elem hτ rfl rfl rfl rfl (e := [.int .i64 c2]) rfl rfl ?_
      repeat first
        | refine awl_val hτ rfl rfl rfl ?_
        | refine awl_nil ?_
        | refine aw_seq ?_
        | refine aw_region ?_
        | refine awl_skip rfl rfl ?_
        | refine aw_skip ?_
        | refine awl_valH hτ rfl rfl rfl ?_
      refine awl_need hτ rfl rfl rfl ⟨by decide, by decide, by decide, rfl⟩ ?_
      refine awl_elemH hτ rfl rfl rfl rfl (e := [.int .i64 c2]) rfl rfl ?_
      repeat first
        | refine awl_val hτ rfl rfl rfl ?_
        | refine awl_nil ?_
        | refine aw_seq ?_
        | refine aw_region ?_
        | refine awl_skip rfl rfl ?_
        | refine aw_skip ?_
        | refine awl_valH hτ rfl rfl rfl ?_
      have ek : IntKind.wrap .i64 ((k : Int) + 1) = ((k + 1 : Nat) : Int) := by rw [wrap_id _ (by omega) (by omega)]; omega
      have ew : IntKind.wrap .i64 (c2 + 1) = c2 + 1 := wrap_id _ (by omega) (by omega)
      refine ⟨((c0, c1, IntKind.wrap .i64 (c2 + 1)), IntKind.wrap .i64 ((k : Int) + 1)), ⟨k + 1, ek, by omega, ?_, ?_, ?_, ?_⟩, ?_, weak_ofP [0] rfl (by simp) rfl (by repeat' first | exact trivial | refine ⟨?_, ?_⟩) ⟨rfl, trivial, rfl, trivial, rfl, trivial, rfl, trivial, rfl, trivial, trivial⟩⟩
      · first | exact p0' | (show 0 ≤ IntKind.wrap .i64 (c2 + 1); omega)
      · first | exact p1' | (show 0 ≤ IntKind.wrap .i64 (c2 + 1); omega)
      · first | exact p2' | (show 0 ≤ IntKind.wrap .i64 (c2 + 1); omega)
      · show c0 + c1 + IntKind.wrap .i64 (c2 + 1) = ((k + 1 : Nat) : Int)
        omega
      · show us.length - (IntKind.wrap .i64 ((k : Int) + 1)).toNat < us.length - (k : Int).toNat
        rw [ek]; omega
  · refine aw_exit ?_
    simp only [decide_eq_false_iff_not] at hc
    have hkl : k = us.length := by omega
    repeat first
      | refine awl_val hτ rfl rfl rfl ?_
      | refine awl_nil ?_
      | refine aw_seq ?_
      | refine aw_region ?_
      | refine awl_skip rfl rfl ?_
      | refine aw_skip ?_
      | refine awl_valH hτ rfl rfl rfl ?_
    refine aw_ret ?_
    exact ret_objs (.inr rfl) [0] (new := [_]) (objs' := []) rfl (by simp) (by simp) rfl (by repeat' first | exact trivial | refine ⟨?_, ?_⟩) rfl rfl (by repeat' first | exact trivial | refine ⟨?_, ?_⟩) (fun h => nomatch h) ⟨⟨c0, c1, c2, p0', p1', p2', by omega, rfl⟩, rfl, rfl⟩
end Go.Proofs.Ytolggocnbakokaa.AWN

namespace Go.Proofs.Ytolggocnbakokaa.AWN
open Go Go.Proofs.Try

theorem finite_ok (x : Nat) : ACall prog false 59 [.d (.fl .f32 x)] [] (fun r o new => r = .d (.bool (fcmp .eql .f32 (farith .sub .f32 x x) 0)) ∧ o = [] ∧ new = []) := by
  refine acall_of_aw hτ func59 rfl (by simp) (by simp) ?_
  repeat first
    | refine awl_val hτ rfl rfl rfl ?_
    | refine awl_nil ?_
    | refine aw_seq ?_
    | refine aw_region ?_
    | refine awl_skip rfl rfl ?_
    | refine aw_skip ?_
    | refine awl_valH hτ rfl rfl rfl ?_
  refine aw_ret ?_
  exact ret_data (.inr rfl) rfl rfl (by repeat' first | exact trivial | refine ⟨?_, ?_⟩) (fun h => nomatch h) ⟨rfl, rfl, rfl⟩

theorem half_finite : fcmp .eql .f32 (farith .sub .f32 1056964608 1056964608) 0 = true := by kernel_rfl

theorem summed_ok' (t : Bool) (es : List (List D)) (us : List Int) (he : es = intD us) (hs : Small us) : ACall prog false 57 [.d (.sl t es)] [] (fun r o new => r = .d (.int .i64 us.sum) ∧ o = [] ∧ new = []) := by
  subst he; exact summed_ok t us hs

theorem Small.take {us : List Int} (h : Small us) (n : Nat) : Small (us.take n) := by
  refine ⟨by have := h.1; simp; omega, fun i hi => ?_⟩
  have hi' : i < us.length := by simp at hi; omega
  have := h.2 i hi'
  rw [List.getD_eq_getElem?_getD, List.getElem?_take_of_lt (by simp at hi; omega), ← List.getD_eq_getElem?_getD]
  exact this

theorem quiet_ok (dg : Nat) (t : Bool) (rs : List Int) (hg : GoodM dg rs) (h3 : 3 ≤ rs.length) : ACall prog false 25 [mtsD dg t rs, .d (.fl .f32 1056964608)] []
    (fun r o new => ∃ es : List (List D), r = .tup [.row 0 es.length 0 es.length, .d (.bool true)] ∧ new = [.row 1 es] ∧ es.length ≤ 1 ∧ o = []) := by
  have hl := hg.len
  have hus := hg.small
  have hlen := (usesS_small hg.ok).1
  refine acall_of_aw hτ func25 rfl (by simp) (by simp) ?_
  repeat first
    | refine awl_val hτ rfl rfl rfl ?_
    | refine awl_nil ?_
    | refine aw_seq ?_
    | refine aw_region ?_
    | refine awl_skip rfl rfl ?_
    | refine aw_skip ?_
    | refine awl_valH hτ rfl rfl rfl ?_
  refine awl_callP hτ false [] rfl rfl rfl (enterOk func59 rfl rfl) rfl rfl (by simp) (by repeat' first | exact trivial | refine ⟨?_, ?_⟩) (by repeat' first | exact trivial | refine ⟨?_, ?_⟩) (finite_ok 1056964608) ?_
  rw [half_finite]
  rintro r o new ⟨rfl, rfl, rfl⟩ -
  repeat first
    | refine awl_val hτ rfl rfl rfl ?_
    | refine awl_nil ?_
    | refine aw_seq ?_
    | refine aw_region ?_
    | refine awl_skip rfl rfl ?_
    | refine aw_skip ?_
    | refine awl_valH hτ rfl rfl rfl ?_
  refine aw_cond rfl (fun hd => nomatch hd) (fun hd => ?_)
  repeat first
    | refine awl_val hτ rfl rfl rfl ?_
    | refine awl_nil ?_
    | refine aw_seq ?_
    | refine aw_region ?_
    | refine awl_skip rfl rfl ?_
    | refine aw_skip ?_
    | refine awl_valH hτ rfl rfl rfl ?_
  refine aw_block ?_
  refine aw_loop (ι := (Nat × List (List D)) × Int) (fun ((L, es), x) => St.of [(1, .d (.fl .f32 1056964608)), (6, .row 0 L 0 L), (21, mtsD dg t rs), (22, .d (.int .i64 1)), (23, .d (.int .i64 x))] [.row 1 es] f25.ntmps 0)
    (fun ((L, es), x) => (x = 0 ∧ L = 0 ∧ es = []) ∨ (x = 1 ∧ L = es.length ∧ es.length ≤ 1)) (fun ((L, es), x) => 1 - x.toNat) ((0, []), 0) (.inl ⟨rfl, rfl, rfl⟩)
    (weak_ofP [0] rfl (by simp) rfl (by repeat' first | exact trivial | refine ⟨?_, ?_⟩) ⟨rfl, trivial, rfl, trivial, rfl, trivial, rfl, trivial, rfl, trivial, trivial⟩) ?_
  rintro ⟨⟨L, es⟩, x⟩ hI
  repeat first
    | refine awl_val hτ rfl rfl rfl ?_
    | refine awl_nil ?_
    | refine aw_seq ?_
    | refine aw_region ?_
    | refine awl_skip rfl rfl ?_
    | refine aw_skip ?_
    | refine awl_valH hτ rfl rfl rfl ?_
  refine aw_cond rfl (fun hc => ?_) (fun hc => ?_)
  · obtain ⟨rfl, rfl, rfl⟩ : x = 0 ∧ L = 0 ∧ es = [] := by
      rcases hI with h | ⟨rfl, _⟩
      · exact h
      · cases hc
    repeat first
      | refine awl_val hτ rfl rfl rfl ?_
      | refine awl_nil ?_
      | refine aw_seq ?_
      | refine aw_region ?_
      | refine awl_skip rfl rfl ?_
      | refine aw_skip ?_
      | refine awl_valH hτ rfl rfl rfl ?_
    refine aw_block ?_
    repeat first
      | refine awl_val hτ rfl rfl rfl ?_
      | refine awl_nil ?_
      | refine aw_seq ?_
      | refine aw_region ?_
      | refine awl_skip rfl rfl ?_
      | refine aw_skip ?_
      | refine awl_valH hτ rfl rfl rfl ?_
    refine awl_elem hτ rfl rfl rfl (by decide) (e := [.int .i64 dg, .sl t (intD rs)]) rfl rfl ?_
    repeat first
      | refine awl_val hτ rfl rfl rfl ?_
      | refine awl_nil ?_
      | refine aw_seq ?_
      | refine aw_region ?_
      | refine awl_skip rfl rfl ?_
      | refine aw_skip ?_
      | refine awl_valH hτ rfl rfl rfl ?_
    refine awl_callP hτ false [] rfl rfl rfl (enterOk func26 rfl rfl) rfl rfl (by simp) (by repeat' first | exact trivial | refine ⟨?_, ?_⟩) (by repeat' first | exact trivial | refine ⟨?_, ?_⟩) (valid_ok dg hg.nine t rs (by omega)) ?_
    rw [hg.valid]
    rintro r o new ⟨rfl, rfl, rfl⟩ -
    repeat first
      | refine awl_val hτ rfl rfl rfl ?_
      | refine awl_nil ?_
      | refine aw_seq ?_
      | refine aw_region ?_
      | refine awl_skip rfl rfl ?_
      | refine aw_skip ?_
      | refine awl_valH hτ rfl rfl rfl ?_
    refine aw_cond rfl (fun hd => ?_) (fun hd => ?_)
    · exfalso
      have hd' : decide (((intD rs).length : Int) < 3) = true := hd
      rw [intD_length] at hd'
      simp only [decide_eq_true_eq] at hd'
      omega
    repeat first
      | refine awl_val hτ rfl rfl rfl ?_
      | refine awl_nil ?_
      | refine aw_seq ?_
      | refine aw_region ?_
      | refine awl_skip rfl rfl ?_
      | refine aw_skip ?_
      | refine awl_valH hτ rfl rfl rfl ?_
    refine awl_callP hτ false [1] rfl rfl rfl (enterOk func56 rfl rfl) rfl rfl (by simp) (by repeat' first | exact trivial | refine ⟨?_, ?_⟩) (by repeat' first | exact trivial | refine ⟨?_, ?_⟩) (uses_ok dg hg.nine t rs hg.len hg.ok) ?_
    rintro r o new ⟨rfl, rfl, rfl⟩ -
    generalize hU : usesS (10 ^ dg : Nat) rs = us at *
    have hul := hus.1
    refine awl_weak (weak_ofP [0] (l := [(1, .d (.fl .f32 1056964608)), (6, .row 0 0 0 0), (7, .d (.int .i64 0)), (21, mtsD dg t rs), (22, .d (.int .i64 1)), (23, .d (.int .i64 0)), (37, .d (.sl false (intD us)))]) rfl (by simp) rfl (by repeat' first | exact trivial | refine ⟨?_, ?_⟩) ⟨rfl, trivial, rfl, trivial, rfl, trivial, rfl, trivial, rfl, trivial, rfl, trivial, exV_row rfl rfl (intD_length _), ⟨intD_length _, by omega⟩, trivial⟩) ?_
    repeat first
      | refine awl_val hτ rfl rfl rfl ?_
      | refine awl_nil ?_
      | refine aw_seq ?_
      | refine aw_region ?_
      | refine awl_skip rfl rfl ?_
      | refine aw_skip ?_
      | refine awl_valH hτ rfl rfl rfl ?_
    have ew : IntKind.wrap .i64 (((intD us).length : Int) - 1) = ((us.length - 1 : Nat) : Int) := by
      rw [intD_length, wrap_id _ (by omega) (by omega)]; omega
    refine awl_need hτ rfl rfl rfl ⟨by decide, ?_, ?_, fun e he => ?_⟩ ?_
    · show (0 : Int) ≤ IntKind.wrap .i64 (((intD us).length : Int) - 1)
      rw [ew]; omega
    · show IntKind.wrap .i64 (((intD us).length : Int) - 1) ≤ (intD us).length
      rw [ew, intD_length]; omega
    · simp only [intD, List.mem_map] at he
      obtain ⟨_, _, rfl⟩ := he
      rfl
    refine awl_callP hτ false [] rfl rfl rfl (enterOk func57 rfl rfl) rfl rfl (by simp) (by repeat' first | exact trivial | refine ⟨?_, ?_⟩) (by repeat' first | exact trivial | refine ⟨?_, ?_⟩) (summed_ok' false _ (us.take (us.length - 1)) ?_ (hus.take _)) ?_
    · show List.take ((IntKind.wrap .i64 (((intD us).length : Int) - 1)).toNat - (0 : Int).toNat) (List.drop (0 : Int).toNat (intD us)) = _
      rw [ew]; simp [intD]
    rintro r o new ⟨rfl, rfl, rfl⟩ -
    repeat first
      | refine awl_val hτ rfl rfl rfl ?_
      | refine awl_nil ?_
      | refine aw_seq ?_
      | refine aw_region ?_
      | refine awl_skip rfl rfl ?_
      | refine aw_skip ?_
      | refine awl_valH hτ rfl rfl rfl ?_
    refine awl_elem hτ rfl rfl rfl ?_ (intD_get ?_) rfl ?_
    · show (0 : Int) ≤ IntKind.wrap .i64 (((intD us).length : Int) - 1)
      rw [ew]; omega
    · show (IntKind.wrap .i64 (((intD us).length : Int) - 1)).toNat < us.length
      rw [ew]; omega
    repeat first
      | refine awl_val hτ rfl rfl rfl ?_
      | refine awl_nil ?_
      | refine aw_seq ?_
      | refine aw_region ?_
      | refine awl_skip rfl rfl ?_
      | refine aw_skip ?_
      | refine awl_valH hτ rfl rfl rfl ?_
    refine aw_cond rfl (fun hd => ?_) (fun hd => ?_)
    · repeat first
        | refine awl_val hτ rfl rfl rfl ?_
        | refine awl_nil ?_
        | refine aw_seq ?_
        | refine aw_region ?_
        | refine awl_skip rfl rfl ?_
        | refine aw_skip ?_
        | refine awl_valH hτ rfl rfl rfl ?_
      refine awl_needH hτ rfl rfl rfl ⟨⟨rfl, by decide⟩, rfl, rfl, rfl, (show (0 + 1) * 8 ≤ 140737488355328 by decide), by decide, fun y hy => by rw [List.mem_singleton.1 hy]; rfl⟩ ?_
      repeat first
        | refine awl_val hτ rfl rfl rfl ?_
        | refine awl_nil ?_
        | refine aw_seq ?_
        | refine aw_region ?_
        | refine awl_skip rfl rfl ?_
        | refine aw_skip ?_
        | refine awl_valH hτ rfl rfl rfl ?_
      exact ⟨((1, [[.int .i64 0]]), 1), .inr ⟨rfl, rfl, by decide⟩, (by show 1 - (1 : Int).toNat < 1 - (0 : Int).toNat; decide), weak_ofP [0] rfl (by simp) rfl (by repeat' first | exact trivial | refine ⟨?_, ?_⟩) ⟨rfl, trivial, rfl, trivial, rfl, trivial, rfl, trivial, rfl, trivial, trivial⟩⟩
    · repeat first
        | refine awl_val hτ rfl rfl rfl ?_
        | refine awl_nil ?_
        | refine aw_seq ?_
        | refine aw_region ?_
        | refine awl_skip rfl rfl ?_
        | refine aw_skip ?_
        | refine awl_valH hτ rfl rfl rfl ?_
      exact ⟨((0, []), 1), .inr ⟨rfl, rfl, by decide⟩, (by show 1 - (1 : Int).toNat < 1 - (0 : Int).toNat; decide), weak_ofP [0] rfl (by simp) rfl (by repeat' first | exact trivial | refine ⟨?_, ?_⟩) ⟨rfl, trivial, rfl, trivial, rfl, trivial, rfl, trivial, rfl, trivial, trivial⟩⟩
  · refine aw_exit ?_
    obtain ⟨rfl, rfl, h1⟩ : x = 1 ∧ L = es.length ∧ es.length ≤ 1 := by
      rcases hI with ⟨rfl, _⟩ | h
      · cases hc
      · exact h
    repeat first
      | refine awl_val hτ rfl rfl rfl ?_
      | refine awl_nil ?_
      | refine aw_seq ?_
      | refine aw_region ?_
      | refine awl_skip rfl rfl ?_
      | refine aw_skip ?_
      | refine awl_valH hτ rfl rfl rfl ?_
    refine aw_ret ?_
    exact ret_objs (.inr rfl) [0] (new := [_]) (objs' := []) rfl (by simp) (by simp) rfl (by repeat' first | exact trivial | refine ⟨?_, ?_⟩) rfl rfl (by repeat' first | exact trivial | refine ⟨?_, ?_⟩) (fun h => nomatch h) ⟨es, rfl, rfl, h1, rfl⟩
end Go.Proofs.Ytolggocnbakokaa.AWN

namespace Go.Proofs.Ytolggocnbakokaa.AWN
open Go Go.Proofs.Try

def lfP (us : List Int) : Nat := farith .mul .f64 (FloatKind.nearest .f64 us.length) (FloatKind.nearest .f64 (maxS (us.drop 1) (us.getD 0 0)))
def lfQ (us : List Int) : Nat := farith .quo .f64 (FloatKind.nearest .f64 us.sum) (lfP us)

theorem factor_ok (dg : Nat) (t : Bool) (rs : List Int) (hg : GoodM dg rs) (h2 : 2 ≤ rs.length) (hw : fcmp .eql .f64 (lfP (usesS (10 ^ dg : Nat) rs)) 0 = false → ∃ w, fconv .f64 .f32 (lfQ (usesS (10 ^ dg : Nat) rs)) = some w) : ACall prog false 24 [mtV dg t rs] []
    (fun r o new => ((fcmp .eql .f64 (lfP (usesS (10 ^ dg : Nat) rs)) 0 = true ∧ r = .tup [.d (.fl .f32 0), .d (.bool false)]) ∨ (fcmp .eql .f64 (lfP (usesS (10 ^ dg : Nat) rs)) 0 = false ∧ ∃ w, fconv .f64 .f32 (lfQ (usesS (10 ^ dg : Nat) rs)) = some w ∧ r = .tup [.d (.fl .f32 w), .d (.bool true)])) ∧ o = [] ∧ new = []) := by
  have hl := hg.len
  have hus := hg.small
  have hlen := (usesS_small hg.ok).1
  refine acall_of_aw hτ func24 rfl (by simp) (by simp) ?_
  repeat first
    | refine awl_val hτ rfl rfl rfl ?_
    | refine awl_nil ?_
    | refine aw_seq ?_
    | refine aw_region ?_
    | refine awl_skip rfl rfl ?_
    | refine aw_skip ?_
    | refine awl_valH hτ rfl rfl rfl ?_
  refine awl_callP hτ false [] rfl rfl rfl (enterOk func26 rfl rfl) rfl rfl (by simp) (by repeat' first | exact trivial | refine ⟨?_, ?_⟩) (by repeat' first | exact trivial | refine ⟨?_, ?_⟩) (valid_ok dg hg.nine t rs (by omega)) ?_
  rw [hg.valid]
  rintro r o new ⟨rfl, rfl, rfl⟩ -
  repeat first
    | refine awl_val hτ rfl rfl rfl ?_
    | refine awl_nil ?_
    | refine aw_seq ?_
    | refine aw_region ?_
    | refine awl_skip rfl rfl ?_
    | refine aw_skip ?_
    | refine awl_valH hτ rfl rfl rfl ?_
  refine aw_cond rfl (fun hd => ?_) (fun hd => ?_)
  · exfalso
    have hd' : decide (((intD rs).length : Int) < 2) = true := hd
    rw [intD_length] at hd'
    simp only [decide_eq_true_eq] at hd'
    omega
  repeat first
    | refine awl_val hτ rfl rfl rfl ?_
    | refine awl_nil ?_
    | refine aw_seq ?_
    | refine aw_region ?_
    | refine awl_skip rfl rfl ?_
    | refine aw_skip ?_
    | refine awl_valH hτ rfl rfl rfl ?_
  refine awl_callP hτ false [0] rfl rfl rfl (enterOk func56 rfl rfl) rfl rfl (by simp) (by repeat' first | exact trivial | refine ⟨?_, ?_⟩) (by repeat' first | exact trivial | refine ⟨?_, ?_⟩) (uses_ok dg hg.nine t rs hg.len hg.ok) ?_
  rintro r o new ⟨rfl, rfl, rfl⟩ -
  generalize hU : usesS (10 ^ dg : Nat) rs = us at *
  have hul := hus.1
  refine awl_weak (weak_ofP [] (l := [(15, .d (.sl false (intD us)))]) rfl (by simp) rfl (by repeat' first | exact trivial | refine ⟨?_, ?_⟩) ⟨exV_row rfl rfl (intD_length _), ⟨intD_length _, by omega⟩, trivial⟩) ?_
  repeat first
    | refine awl_val hτ rfl rfl rfl ?_
    | refine awl_nil ?_
    | refine aw_seq ?_
    | refine aw_region ?_
    | refine awl_skip rfl rfl ?_
    | refine aw_skip ?_
    | refine awl_valH hτ rfl rfl rfl ?_
  refine awl_callP hτ false [] rfl rfl rfl (enterOk func58 rfl rfl) rfl rfl (by simp) (by repeat' first | exact trivial | refine ⟨?_, ?_⟩) (by repeat' first | exact trivial | refine ⟨?_, ?_⟩) (max_ok false us hul (by omega)) ?_
  rintro r o new ⟨rfl, rfl, rfl⟩ -
  repeat first
    | refine awl_val hτ rfl rfl rfl ?_
    | refine awl_nil ?_
    | refine aw_seq ?_
    | refine aw_region ?_
    | refine awl_skip rfl rfl ?_
    | refine aw_skip ?_
    | refine awl_valH hτ rfl rfl rfl ?_
  have hP : lfP us = farith .mul .f64 (FloatKind.nearest .f64 (intD us).length) (FloatKind.nearest .f64 (maxS (us.drop 1) (us.getD 0 0))) := by rw [intD_length]; rfl
  refine aw_cond rfl (fun hd => ?_) (fun hd => ?_)
  · have hd' : fcmp .eql .f64 (farith .mul .f64 (FloatKind.nearest .f64 (intD us).length) (FloatKind.nearest .f64 (maxS (us.drop 1) (us.getD 0 0)))) 0 = true := hd
    rw [← hP] at hd'
    repeat first
      | refine awl_val hτ rfl rfl rfl ?_
      | refine awl_nil ?_
      | refine aw_seq ?_
      | refine aw_region ?_
      | refine awl_skip rfl rfl ?_
      | refine aw_skip ?_
      | refine awl_valH hτ rfl rfl rfl ?_
    refine aw_ret ?_
    exact ret_data (.inr rfl) rfl rfl (by repeat' first | exact trivial | refine ⟨?_, ?_⟩) (fun h => nomatch h) ⟨.inl ⟨hd', rfl⟩, rfl, rfl⟩
  · have hd' : fcmp .eql .f64 (farith .mul .f64 (FloatKind.nearest .f64 (intD us).length) (FloatKind.nearest .f64 (maxS (us.drop 1) (us.getD 0 0)))) 0 = false := hd
    rw [← hP] at hd'
    obtain ⟨w, hw⟩ := hw hd'
    repeat first
      | refine awl_val hτ rfl rfl rfl ?_
      | refine awl_nil ?_
      | refine aw_seq ?_
      | refine aw_region ?_
      | refine awl_skip rfl rfl ?_
      | refine aw_skip ?_
      | refine awl_valH hτ rfl rfl rfl ?_
    refine awl_callP hτ false [] rfl rfl rfl (enterOk func57 rfl rfl) rfl rfl (by simp) (by repeat' first | exact trivial | refine ⟨?_, ?_⟩) (by repeat' first | exact trivial | refine ⟨?_, ?_⟩) (summed_ok false us hus) ?_
    rintro r o new ⟨rfl, rfl, rfl⟩ -
    repeat first
      | refine awl_val hτ rfl rfl rfl ?_
      | refine awl_nil ?_
      | refine aw_seq ?_
      | refine aw_region ?_
      | refine awl_skip rfl rfl ?_
      | refine aw_skip ?_
      | refine awl_valH hτ rfl rfl rfl ?_
    have hw' : fconv .f64 .f32 (farith .quo .f64 (FloatKind.nearest .f64 us.sum) (farith .mul .f64 (FloatKind.nearest .f64 (intD us).length) (FloatKind.nearest .f64 (maxS (us.drop 1) (us.getD 0 0))))) = some w := by rw [← hP]; exact hw
    refine awl_val hτ (v := .d (.fl .f32 w)) rfl rfl ?_ ?_
    · show (match fconv .f64 .f32 (farith .quo .f64 (FloatKind.nearest .f64 us.sum) (farith .mul .f64 (FloatKind.nearest .f64 (intD us).length) (FloatKind.nearest .f64 (maxS (us.drop 1) (us.getD 0 0))))) with
        | some r => OR.val (.d (.fl .f32 r))
        | none => _) = _
      rw [hw']
    repeat first
      | refine awl_val hτ rfl rfl rfl ?_
      | refine awl_nil ?_
      | refine aw_seq ?_
      | refine aw_region ?_
      | refine awl_skip rfl rfl ?_
      | refine aw_skip ?_
      | refine awl_valH hτ rfl rfl rfl ?_
    refine aw_ret ?_
    exact ret_data (.inr rfl) rfl rfl (by repeat' first | exact trivial | refine ⟨?_, ?_⟩) (fun h => nomatch h) ⟨.inr ⟨hd', w, hw, rfl⟩, rfl, rfl⟩
end Go.Proofs.Ytolggocnbakokaa.AWN

set_option maxHeartbeats 1500000
namespace Go.Proofs.Ytolggocnbakokaa.AWN
open Go Go.Proofs.Try

theorem meter_ok' (t : Bool) (bs : List UInt8) (x : Int) (n : Nat) (hx : x = n) (h0 : 0 < n) (h1 : n ≤ 100) : ACall prog false 19 [.d (.sl t (byteD bs)), .d (.int .i64 x)] []
    (fun r o new => (∃ (dg : Nat) (rs : List Int), r = mtV dg false rs ∧ GoodM dg rs ∧ dg ≤ 3 ∧ rs.length = n) ∧ o = [] ∧ new = []) := by
  subst hx; exact meter_ok t bs n h0 h1
theorem atS_range {bs : List UInt8} {i n : Int} (hi : 0 ≤ i) (hn : 1 ≤ n) : 0 ≤ atS bs i n ∧ atS bs i n < n := by
  unfold atS
  split
  · omega
  · split
    · exact ⟨Int.emod_nonneg _ (by omega), Int.emod_lt_of_pos _ (by omega)⟩
    · exact ⟨Int.emod_nonneg _ (by omega), Int.emod_lt_of_pos _ (by omega)⟩

theorem exV_tup {ρ : Nat → Option Nat} {H : Nat → AObj} {j L sz : Nat} {x : D} {es : List (List D)} (hr : ρ j = none) (hj : H j = .row sz es) (hl : es.length = L) : exV ρ H true (.tup [.row j L 0 L, .d x]) = some (.tup [.d (.sl false es), .d x]) := by
  subst hl
  simp [exV, exA, exC, mapO, hr, hj]

theorem exVP_tup {ρ : Nat → Option Nat} {H : Nat → AObj} {j L sz : Nat} {x : D} {es : List (List D)} (hr : ρ j = none) (hj : H j = .row sz es) (hl : es.length = L) : exVP ρ H (.tup [.row j L 0 L, .d x]) := by
  subst hl
  simp [exVP, exAPL, exAP, exP, hr, hj]
theorem exVP_row {ρ : Nat → Option Nat} {H : Nat → AObj} {j L sz : Nat} {es : List (List D)} (hr : ρ j = none) (hj : H j = .row sz es) (hl : es.length = L) : exVP ρ H (.row j L 0 L) := by
  subst hl
  simp [exVP, exAP, exP, hr, hj]

theorem usesS_get {q : Int} : ∀ {rs : List Int} {k : Nat}, k + 1 < rs.length → (usesS q rs).getD k 0 = useS q (rs.getD k 0) (rs.getD (k + 1) 0)
  | [], _, h => by simp at h
  | [a], _, h => by simp at h
  | a :: b :: r, 0, h => rfl
  | a :: b :: r, k + 1, h => by
    have := usesS_get (q := q) (rs := b :: r) (k := k) (by simpa using h)
    simpa [usesS] using this
theorem useS_mod {q a b : Int} (ha : 0 ≤ a ∧ a < q) (hb : 0 ≤ b ∧ b < q) : (a + useS q a b).tmod q = b := by
  have h := useS_small ha hb
  rw [Int.tmod_eq_emod_of_nonneg (by omega)]
  unfold useS
  split
  · rw [show a + (b - a + q) = b + q by omega, Int.add_emod_right, Int.emod_eq_of_lt hb.1 hb.2]
  · rw [show a + (b - a) = b by omega, Int.emod_eq_of_lt hb.1 hb.2]

/-- What the factor of a meter of few readings is. -/
structure FacOk (us : List Int) (five : Bool) (w : Nat) : Prop where
  pos : five = decide (us.sum > 0)
  least : five = true → fcmp .leq .f32 w 0 = false
  most : five = true → fcmp .gtr .f32 w 1065353216 = false

theorem meters_ok (t1 t2 : Bool) (b1 b2 : List UInt8)
    (hnum : ∀ (dg : Nat) (rs : List Int), GoodM dg rs → dg ≤ 3 → 3 ≤ rs.length → rs.length ≤ 7 → (fcmp .eql .f64 (lfP (usesS (10 ^ dg : Nat) rs)) 0 = false → ∃ w, fconv .f64 .f32 (lfQ (usesS (10 ^ dg : Nat) rs)) = some w) ∧
      (fcmp .eql .f64 (lfP (usesS (10 ^ dg : Nat) rs)) 0 = true → FacOk (usesS (10 ^ dg : Nat) rs) false 0) ∧ (fcmp .eql .f64 (lfP (usesS (10 ^ dg : Nat) rs)) 0 = false → ∀ w, fconv .f64 .f32 (lfQ (usesS (10 ^ dg : Nat) rs)) = some w → FacOk (usesS (10 ^ dg : Nat) rs) true w)) :
    ACall prog false 4 [.d (.sl t1 (byteD b1)), .d (.sl t2 (byteD b2))] [] (fun r o new => r = .d (.bool true) ∧ o = [] ∧ new = []) := by
  have ha := atS_range (bs := b2) (i := 1) (n := 20) (by decide) (by decide)
  have hb := atS_range (bs := b2) (i := 2) (n := 400) (by decide) (by decide)
  have hat1 := at_ok t2 b2 1 20 (by decide)
  have hat2 := at_ok t2 b2 2 400 (by decide)
  obtain ⟨la, hla⟩ : ∃ la, atS b2 1 20 = la := ⟨_, rfl⟩
  obtain ⟨lb, hlb⟩ : ∃ lb, atS b2 2 400 = lb := ⟨_, rfl⟩
  rw [hla] at hat1 ha
  rw [hlb] at hat2 hb
  have hab : la < IntKind.wrap .i64 (20 + lb) := by rw [wrap_id _ (by omega) (by omega)]; omega
  have hq := atS_range (bs := b2) (i := 0) (n := 5) (by decide) (by decide)
  refine acall_of_aw hτ func4 rfl (by simp) (by simp) ?_
  repeat first
    | refine awl_val hτ rfl rfl rfl ?_
    | refine awl_nil ?_
    | refine aw_seq ?_
    | refine aw_region ?_
    | refine awl_skip rfl rfl ?_
    | refine aw_skip ?_
    | refine awl_valH hτ rfl rfl rfl ?_
  refine awl_callP hτ false [] rfl rfl rfl (enterOk func8 rfl rfl) rfl rfl (by simp) (by repeat' first | exact trivial | refine ⟨?_, ?_⟩) (by repeat' first | exact trivial | refine ⟨?_, ?_⟩) (long_ok t1 t2 (byteD b1) (byteD b2)) ?_
  rintro r o new ⟨rfl, rfl, rfl⟩ -
  repeat first
    | refine awl_val hτ rfl rfl rfl ?_
    | refine awl_nil ?_
    | refine aw_seq ?_
    | refine aw_region ?_
    | refine awl_skip rfl rfl ?_
    | refine aw_skip ?_
    | refine awl_valH hτ rfl rfl rfl ?_
  refine aw_cond rfl (fun hd => ?_) (fun hd => ?_)
  · repeat first
      | refine awl_val hτ rfl rfl rfl ?_
      | refine awl_nil ?_
      | refine aw_seq ?_
      | refine aw_region ?_
      | refine awl_skip rfl rfl ?_
      | refine aw_skip ?_
      | refine awl_valH hτ rfl rfl rfl ?_
    refine aw_ret ?_
    exact ret_data (.inr rfl) rfl rfl (by repeat' first | exact trivial | refine ⟨?_, ?_⟩) (fun h => nomatch h) ⟨rfl, rfl, rfl⟩
  clear hd
  repeat first
    | refine awl_val hτ rfl rfl rfl ?_
    | refine awl_nil ?_
    | refine aw_seq ?_
    | refine aw_region ?_
    | refine awl_skip rfl rfl ?_
    | refine aw_skip ?_
    | refine awl_valH hτ rfl rfl rfl ?_
  refine awl_callP hτ false [] rfl rfl rfl (enterOk func9 rfl rfl) rfl rfl (by simp) (by repeat' first | exact trivial | refine ⟨?_, ?_⟩) (by repeat' first | exact trivial | refine ⟨?_, ?_⟩) (at_ok t2 b2 0 5 (by decide)) ?_
  rintro r o new ⟨rfl, rfl, rfl⟩ -
  repeat first
    | refine awl_val hτ rfl rfl rfl ?_
    | refine awl_nil ?_
    | refine aw_seq ?_
    | refine aw_region ?_
    | refine awl_skip rfl rfl ?_
    | refine aw_skip ?_
    | refine awl_valH hτ rfl rfl rfl ?_
  refine awl_callP hτ false [] rfl rfl rfl (enterOk func19 rfl rfl) rfl rfl (by simp) (by repeat' first | exact trivial | refine ⟨?_, ?_⟩) (by repeat' first | exact trivial | refine ⟨?_, ?_⟩) (meter_ok' t1 b1 _ (3 + atS b2 0 5).toNat (by show IntKind.wrap .i64 (3 + atS b2 0 5) = _; rw [wrap_id _ (by omega) (by omega)]; omega) (by omega) (by omega)) ?_
  rintro r o new ⟨⟨dg, rs, rfl, hg, hd3, hlen⟩, rfl, rfl⟩ -
  have hl3 : 3 ≤ rs.length := by omega
  have hl7 : rs.length ≤ 7 := by omega
  clear hlen hq
  obtain ⟨hn1, hn2, hn3⟩ := hnum dg rs hg hd3 hl3 hl7
  clear hnum
  obtain ⟨us, hU⟩ : ∃ us, usesS (10 ^ dg : Nat) rs = us := ⟨_, rfl⟩
  have hus := hg.small
  have hul2 := (usesS_small hg.ok).1
  have huv := (usesS_small hg.ok).2
  have huse := usesOf_ok dg false rs hg
  have hsum := useOf_ok dg false rs hg
  have hbal := balance_ok dg false rs hg
  have hban := bands_ok dg false rs hg
  have hfac := factor_ok dg false rs hg (by omega) hn1
  have hqui := quiet_ok dg false rs hg hl3
  rw [hU] at hus hul2 huv huse hsum hbal hfac hn1 hn2 hn3
  simp only [hU] at hban
  have hfac' := hfac.mono (R' := fun r o new => ∃ five w, r = .tup [.d (.fl .f32 w), .d (.bool five)] ∧ FacOk us five w ∧ o = [] ∧ new = []) (fun r o n ⟨hr, h3, h4⟩ => by
    rcases hr with ⟨h1, h2⟩ | ⟨h1, w, h2, h5⟩
    · exact ⟨false, 0, h2, hn2 h1, h3, h4⟩
    · exact ⟨true, w, h5, hn3 h1 w h2, h3, h4⟩)
  clear hfac hn1 hn2 hn3
  have hval := valid_ok dg hg.nine false rs (by omega)
  rw [hg.valid] at hval
  have hX : (((intD us).length : Int) != IntKind.wrap .i64 (((intD rs).length : Int) - 1)) = false := by
    rw [intD_length, intD_length, wrap_id _ (by omega) (by omega), hul2, show ((rs.length - 1 : Nat) : Int) = (rs.length : Int) - 1 by omega]
    simp
  have hul6 : us.length ≤ 6 := by omega
  have hz10 : (intD (List.replicate us.length 0)).length = us.length := by rw [intD_length]; simp
  repeat first
    | refine awl_val hτ rfl rfl rfl ?_
    | refine awl_nil ?_
    | refine aw_seq ?_
    | refine aw_region ?_
    | refine awl_skip rfl rfl ?_
    | refine aw_skip ?_
    | refine awl_valH hτ rfl rfl rfl ?_
  refine awl_weak (weak_ofP [0] (l := [(1, .d (.sl t2 (byteD b2))), (5, .ptr 0 0), (32, mtV dg false rs)]) (objs := [mtO dg false rs]) rfl (by simp) rfl (by repeat' first | exact trivial | refine ⟨?_, ?_⟩) ⟨rfl, trivial, rfl, trivial, rfl, (by repeat' first | exact trivial | refine ⟨?_, ?_⟩), trivial⟩) ?_
  refine awl_callP hτ false [] rfl rfl rfl (enterOk func20 rfl rfl) rfl rfl (by simp) (by repeat' first | exact trivial | refine ⟨?_, ?_⟩) (by repeat' first | exact trivial | refine ⟨?_, ?_⟩) huse ?_
  rintro r o new ⟨rfl, rfl, rfl⟩ -
  refine awl_weak (weak_ofP [0] (l := [(1, .d (.sl t2 (byteD b2))), (5, .ptr 0 0), (33, .tup [.d (.sl false (intD us)), .d (.bool true)])]) (objs := [mtO dg false rs]) rfl (by simp) rfl (by repeat' first | exact trivial | refine ⟨?_, ?_⟩)
    ⟨rfl, trivial, rfl, trivial, exV_tup (j := 1) (sz := 1) rfl rfl (intD_length _), exVP_tup (j := 1) (sz := 1) rfl rfl (intD_length _), trivial⟩) ?_
  repeat first
    | refine awl_val hτ rfl rfl rfl ?_
    | refine awl_nil ?_
    | refine aw_seq ?_
    | refine aw_region ?_
    | refine awl_skip rfl rfl ?_
    | refine aw_skip ?_
    | refine awl_valH hτ rfl rfl rfl ?_
  refine awl_callP hτ false [] rfl rfl rfl (enterOk func21 rfl rfl) rfl rfl (by simp) (by repeat' first | exact trivial | refine ⟨?_, ?_⟩) (by repeat' first | exact trivial | refine ⟨?_, ?_⟩) hsum ?_
  rintro r o new ⟨rfl, rfl, rfl⟩ -
  repeat first
    | refine awl_val hτ rfl rfl rfl ?_
    | refine awl_nil ?_
    | refine aw_seq ?_
    | refine aw_region ?_
    | refine awl_skip rfl rfl ?_
    | refine aw_skip ?_
    | refine awl_valH hτ rfl rfl rfl ?_
  refine awl_weak (weak_ofP [0] (l := [(1, .d (.sl t2 (byteD b2))), (5, .ptr 0 0), (6, .d (.sl false (intD us))), (7, .d (.bool true)), (8, .d (.int .i64 us.sum)), (9, .d (.bool true)), (42, mtV dg false rs), (44, mtsD dg false rs)]) (objs := [mtO dg false rs]) rfl (by simp) rfl (by repeat' first | exact trivial | refine ⟨?_, ?_⟩)
    ⟨rfl, trivial, rfl, trivial, rfl, trivial, rfl, trivial, rfl, trivial, rfl, trivial, rfl, (by repeat' first | exact trivial | refine ⟨?_, ?_⟩), exV_row (j := 1) (sz := 2) rfl rfl rfl, exVP_row (j := 1) (sz := 2) rfl rfl rfl, trivial⟩) ?_
  refine awl_callP hτ false [] rfl rfl rfl (enterOk func22 rfl rfl) rfl rfl (by simp) (by repeat' first | exact trivial | refine ⟨?_, ?_⟩) (by repeat' first | exact trivial | refine ⟨?_, ?_⟩) hbal ?_
  rintro r o new ⟨rfl, rfl, rfl⟩ -
  refine awl_weak (weak_ofP [0] (l := [(1, .d (.sl t2 (byteD b2))), (5, .ptr 0 0), (6, .d (.sl false (intD us))), (7, .d (.bool true)), (8, .d (.int .i64 us.sum)), (9, .d (.bool true)), (45, .tup [.d (.sl false (intD (List.replicate us.length 0))), .d (.bool true)])]) (objs := [mtO dg false rs]) rfl (by simp) rfl (by repeat' first | exact trivial | refine ⟨?_, ?_⟩)
    ⟨rfl, trivial, rfl, trivial, rfl, trivial, rfl, trivial, rfl, trivial, rfl, trivial, exV_tup (j := 1) (sz := 1) rfl rfl hz10, exVP_tup (j := 1) (sz := 1) rfl rfl hz10, trivial⟩) ?_
  repeat first
    | refine awl_val hτ rfl rfl rfl ?_
    | refine awl_nil ?_
    | refine aw_seq ?_
    | refine aw_region ?_
    | refine awl_skip rfl rfl ?_
    | refine aw_skip ?_
    | refine awl_valH hτ rfl rfl rfl ?_
  refine awl_callP hτ false [] rfl rfl rfl (enterOk func9 rfl rfl) rfl rfl (by simp) (by repeat' first | exact trivial | refine ⟨?_, ?_⟩) (by repeat' first | exact trivial | refine ⟨?_, ?_⟩) hat1 ?_
  rintro r o new ⟨rfl, rfl, rfl⟩ -
  repeat first
    | refine awl_val hτ rfl rfl rfl ?_
    | refine awl_nil ?_
    | refine aw_seq ?_
    | refine aw_region ?_
    | refine awl_skip rfl rfl ?_
    | refine aw_skip ?_
    | refine awl_valH hτ rfl rfl rfl ?_
  refine awl_callP hτ false [] rfl rfl rfl (enterOk func9 rfl rfl) rfl rfl (by simp) (by repeat' first | exact trivial | refine ⟨?_, ?_⟩) (by repeat' first | exact trivial | refine ⟨?_, ?_⟩) hat2 ?_
  rintro r o new ⟨rfl, rfl, rfl⟩ -
  repeat first
    | refine awl_val hτ rfl rfl rfl ?_
    | refine awl_nil ?_
    | refine aw_seq ?_
    | refine aw_region ?_
    | refine awl_skip rfl rfl ?_
    | refine aw_skip ?_
    | refine awl_valH hτ rfl rfl rfl ?_
  refine awl_weak (weak_ofP [0] (l := [(5, .ptr 0 0), (6, .d (.sl false (intD us))), (7, .d (.bool true)), (8, .d (.int .i64 us.sum)), (9, .d (.bool true)), (10, .d (.sl false (intD (List.replicate us.length 0)))), (11, .d (.bool true)), (55, mtV dg false rs), (56, .d (.sl false (intD [la, IntKind.wrap .i64 (20 + lb)])))]) (objs := [mtO dg false rs]) rfl (by simp) rfl (by repeat' first | exact trivial | refine ⟨?_, ?_⟩)
    ⟨rfl, trivial, rfl, trivial, rfl, trivial, rfl, trivial, rfl, trivial, rfl, trivial, rfl, trivial, rfl, (by repeat' first | exact trivial | refine ⟨?_, ?_⟩), exV_row (j := 1) (sz := 1) rfl rfl rfl, exVP_row (j := 1) (sz := 1) rfl rfl rfl, trivial⟩) ?_
  refine awl_callP hτ false [] rfl rfl rfl (enterOk func23 rfl rfl) rfl rfl (by simp) (by repeat' first | exact trivial | refine ⟨?_, ?_⟩) (by repeat' first | exact trivial | refine ⟨?_, ?_⟩) (hban _ _ hab) ?_
  rintro r o new ⟨⟨c0, c1, c2, p0, p1, p2, hsumc, rfl⟩, rfl, rfl⟩ -
  refine awl_weak (weak_ofP [0] (l := [(5, .ptr 0 0), (6, .d (.sl false (intD us))), (7, .d (.bool true)), (8, .d (.int .i64 us.sum)), (9, .d (.bool true)), (10, .d (.sl false (intD (List.replicate us.length 0)))), (11, .d (.bool true)), (57, .tup [.d (.sl false (b3 (c0, c1, c2))), .d (.bool true)])]) (objs := [mtO dg false rs]) rfl (by simp) rfl (by repeat' first | exact trivial | refine ⟨?_, ?_⟩)
    ⟨rfl, trivial, rfl, trivial, rfl, trivial, rfl, trivial, rfl, trivial, rfl, trivial, rfl, trivial, exV_tup (j := 1) (sz := 1) rfl rfl rfl, exVP_tup (j := 1) (sz := 1) rfl rfl rfl, trivial⟩) ?_
  repeat first
    | refine awl_val hτ rfl rfl rfl ?_
    | refine awl_nil ?_
    | refine aw_seq ?_
    | refine aw_region ?_
    | refine awl_skip rfl rfl ?_
    | refine aw_skip ?_
    | refine awl_valH hτ rfl rfl rfl ?_
  refine awl_callP hτ false [] rfl rfl rfl (enterOk func24 rfl rfl) rfl rfl (by simp) (by repeat' first | exact trivial | refine ⟨?_, ?_⟩) (by repeat' first | exact trivial | refine ⟨?_, ?_⟩) hfac' ?_
  rintro r o new ⟨five, w, rfl, hF, rfl, rfl⟩ -
  repeat first
    | refine awl_val hτ rfl rfl rfl ?_
    | refine awl_nil ?_
    | refine aw_seq ?_
    | refine aw_region ?_
    | refine awl_skip rfl rfl ?_
    | refine aw_skip ?_
    | refine awl_valH hτ rfl rfl rfl ?_
  refine awl_weak (weak_ofP [0] (l := [(5, .ptr 0 0), (6, .d (.sl false (intD us))), (7, .d (.bool true)), (8, .d (.int .i64 us.sum)), (9, .d (.bool true)), (10, .d (.sl false (intD (List.replicate us.length 0)))), (11, .d (.bool true)), (13, .d (.sl false (b3 (c0, c1, c2)))), (14, .d (.bool true)), (15, .d (.fl .f32 w)), (16, .d (.bool five)), (67, mtsD dg false rs)]) (objs := [mtO dg false rs]) rfl (by simp) rfl (by repeat' first | exact trivial | refine ⟨?_, ?_⟩)
    ⟨rfl, trivial, rfl, trivial, rfl, trivial, rfl, trivial, rfl, trivial, rfl, trivial, rfl, trivial, rfl, trivial, rfl, trivial, rfl, trivial, rfl, trivial, exV_row (j := 1) (sz := 2) rfl rfl rfl, exVP_row (j := 1) (sz := 2) rfl rfl rfl, trivial⟩) ?_
  refine awl_callP hτ false [] rfl rfl rfl (enterOk func25 rfl rfl) rfl rfl (by simp) (by repeat' first | exact trivial | refine ⟨?_, ?_⟩) (by repeat' first | exact trivial | refine ⟨?_, ?_⟩) hqui ?_
  rintro r o new ⟨qs, rfl, rfl, hqs, rfl⟩ -
  refine awl_weak (weak_ofP [0] (l := [(5, .ptr 0 0), (6, .d (.sl false (intD us))), (7, .d (.bool true)), (8, .d (.int .i64 us.sum)), (9, .d (.bool true)), (10, .d (.sl false (intD (List.replicate us.length 0)))), (11, .d (.bool true)), (13, .d (.sl false (b3 (c0, c1, c2)))), (14, .d (.bool true)), (15, .d (.fl .f32 w)), (16, .d (.bool five)), (68, .tup [.d (.sl false qs), .d (.bool true)])]) (objs := [mtO dg false rs]) rfl (by simp) rfl (by repeat' first | exact trivial | refine ⟨?_, ?_⟩)
    ⟨rfl, trivial, rfl, trivial, rfl, trivial, rfl, trivial, rfl, trivial, rfl, trivial, rfl, trivial, rfl, trivial, rfl, trivial, rfl, trivial, rfl, trivial, exV_tup (j := 1) (sz := 1) rfl rfl rfl, exVP_tup (j := 1) (sz := 1) rfl rfl rfl, trivial⟩) ?_
  repeat first
    | refine awl_val hτ rfl rfl rfl ?_
    | refine awl_nil ?_
    | refine aw_seq ?_
    | refine aw_region ?_
    | refine awl_skip rfl rfl ?_
    | refine aw_skip ?_
    | refine awl_valH hτ rfl rfl rfl ?_
  refine awl_callP hτ false [] rfl rfl rfl (enterOk func26 rfl rfl) rfl rfl (by simp) (by repeat' first | exact trivial | refine ⟨?_, ?_⟩) (by repeat' first | exact trivial | refine ⟨?_, ?_⟩) hval ?_
  rintro r o new ⟨rfl, rfl, rfl⟩ -
  repeat first
    | refine awl_val hτ rfl rfl rfl ?_
    | refine awl_nil ?_
    | refine aw_seq ?_
    | refine aw_region ?_
    | refine awl_skip rfl rfl ?_
    | refine aw_skip ?_
    | refine awl_valH hτ rfl rfl rfl ?_
  refine awl_split 103 rfl (fun hb => Bool.noConfusion (hb.symm.trans hX)) (fun hb => ?_)
  repeat first
    | refine awl_val hτ rfl rfl rfl ?_
    | refine awl_nil ?_
    | refine aw_seq ?_
    | refine aw_region ?_
    | refine awl_skip rfl rfl ?_
    | refine aw_skip ?_
    | refine awl_valH hτ rfl rfl rfl ?_
  refine aw_cond rfl (fun hd => ?_) (fun hd => ?_)
  · exfalso
    have hd' : decide ((qs.length : Int) > 1) = true := hd
    simp only [decide_eq_true_eq] at hd'
    omega
  clear hb hd
  repeat first
    | refine awl_val hτ rfl rfl rfl ?_
    | refine awl_nil ?_
    | refine aw_seq ?_
    | refine aw_region ?_
    | refine awl_skip rfl rfl ?_
    | refine aw_skip ?_
    | refine awl_valH hτ rfl rfl rfl ?_
  refine aw_block ?_
  refine aw_loop (ι := Int × Int) (fun (p, k) => St.of [(5, .ptr 0 0), (6, .d (.sl false (intD us))), (8, .d (.int .i64 us.sum)), (10, .d (.sl false (intD (List.replicate us.length 0)))), (13, .d (.sl false (b3 (c0, c1, c2)))), (15, .d (.fl .f32 w)), (16, .d (.bool five)), (19, .d (.int .i64 p)), (20, .d (.int .i64 k))] [mtO dg false rs] f4.ntmps 0)
    (fun (p, a) => ∃ k : Nat, k ≤ dg ∧ a = k ∧ p = (10 ^ k : Nat)) (fun (p, a) => dg - a.toNat) (1, 0) ⟨0, Nat.zero_le _, rfl, rfl⟩
    (weak_ofP [0] rfl (by simp) rfl (by repeat' first | exact trivial | refine ⟨?_, ?_⟩) ⟨rfl, trivial, rfl, trivial, rfl, trivial, rfl, trivial, rfl, trivial, rfl, trivial, rfl, trivial, rfl, trivial, rfl, trivial, trivial⟩) ?_
  rintro ⟨p, a⟩ ⟨k, hk, rfl, rfl⟩
  repeat first
    | refine awl_val hτ rfl rfl rfl ?_
    | refine awl_nil ?_
    | refine aw_seq ?_
    | refine aw_region ?_
    | refine awl_skip rfl rfl ?_
    | refine aw_skip ?_
    | refine awl_valH hτ rfl rfl rfl ?_
  refine aw_cond rfl (fun hc => ?_) (fun hc => ?_)
  · have hk0 : k < dg := by
      simp only [decide_eq_true_eq] at hc
      omega
    repeat first
      | refine awl_val hτ rfl rfl rfl ?_
      | refine awl_nil ?_
      | refine aw_seq ?_
      | refine aw_region ?_
      | refine awl_skip rfl rfl ?_
      | refine aw_skip ?_
      | refine awl_valH hτ rfl rfl rfl ?_
    refine aw_block ?_
    repeat first
      | refine awl_val hτ rfl rfl rfl ?_
      | refine awl_nil ?_
      | refine aw_seq ?_
      | refine aw_region ?_
      | refine awl_skip rfl rfl ?_
      | refine aw_skip ?_
      | refine awl_valH hτ rfl rfl rfl ?_
    refine ⟨(IntKind.wrap .i64 (((10 ^ k : Nat) : Int) * 10), IntKind.wrap .i64 ((k : Int) + 1)), ⟨k + 1, by omega, ?_, ?_⟩, ?_, weak_ofP [0] rfl (by simp) rfl (by repeat' first | exact trivial | refine ⟨?_, ?_⟩) ⟨rfl, trivial, rfl, trivial, rfl, trivial, rfl, trivial, rfl, trivial, rfl, trivial, rfl, trivial, rfl, trivial, rfl, trivial, trivial⟩⟩
    · show IntKind.wrap .i64 ((k : Int) + 1) = ((k + 1 : Nat) : Int)
      rw [wrap_id _ (by omega) (by omega)]; omega
    · show IntKind.wrap .i64 (((10 ^ k : Nat) : Int) * 10) = ((10 ^ (k + 1) : Nat) : Int)
      have := pow_step (n := k + 1) (k := 1) (by omega) (by omega) (by omega)
      simpa using this
    · show dg - (IntKind.wrap .i64 ((k : Int) + 1)).toNat < dg - (k : Int).toNat
      rw [wrap_id _ (by omega) (by omega)]; omega
  · have hk0 : k = dg := by
      simp only [decide_eq_false_iff_not] at hc
      omega
    clear hc
    subst hk0
    have hp9 : 10 ^ k ≤ 1000000000 := pow_le9 hg.nine
    have hpu := hg.small
    refine aw_exit ?_
    repeat first
      | refine awl_val hτ rfl rfl rfl ?_
      | refine awl_nil ?_
      | refine aw_seq ?_
      | refine aw_region ?_
      | refine awl_skip rfl rfl ?_
      | refine aw_skip ?_
      | refine awl_valH hτ rfl rfl rfl ?_
    refine aw_block ?_
    refine aw_loop (ι := Int × Int) (fun (s, y) => St.of [(5, .ptr 0 0), (6, .d (.sl false (intD us))), (8, .d (.int .i64 us.sum)), (10, .d (.sl false (intD (List.replicate us.length 0)))), (13, .d (.sl false (b3 (c0, c1, c2)))), (15, .d (.fl .f32 w)), (16, .d (.bool five)), (19, .d (.int .i64 (10 ^ k : Nat))), (21, .d (.int .i64 s)), (122, .d (.int .i64 (intD us).length)), (123, .d (.int .i64 y))] [mtO k false rs] f4.ntmps 0)
      (fun (s, y) => ∃ m : Nat, y = m ∧ m ≤ us.length ∧ s + (us.drop m).sum = us.sum ∧ 0 ≤ s ∧ s ≤ m * 1000000000) (fun (s, y) => us.length - y.toNat) (0, 0) ⟨0, rfl, Nat.zero_le _, by simp, by simp, by simp⟩
      (weak_ofP [0] rfl (by simp) rfl (by repeat' first | exact trivial | refine ⟨?_, ?_⟩) ⟨rfl, trivial, rfl, trivial, rfl, trivial, rfl, trivial, rfl, trivial, rfl, trivial, rfl, trivial, rfl, trivial, rfl, trivial, rfl, trivial, rfl, trivial, trivial⟩) ?_
    rintro ⟨s, _⟩ ⟨m, rfl, hm, hsm, hs0, hs1⟩
    repeat first
      | refine awl_val hτ rfl rfl rfl ?_
      | refine awl_nil ?_
      | refine aw_seq ?_
      | refine aw_region ?_
      | refine awl_skip rfl rfl ?_
      | refine aw_skip ?_
      | refine awl_valH hτ rfl rfl rfl ?_
    refine aw_cond rfl (fun hc => ?_) (fun hc => ?_)
    · simp only [decide_eq_true_eq] at hc
      rw [intD_length] at hc
      have hmr : m + 1 < rs.length := by omega
      have hra := hg.ok m (by omega)
      have hrb := hg.ok (m + 1) hmr
      have hum := usesS_get (q := (10 ^ k : Nat)) hmr
      rw [hU] at hum
      have hub := useS_small hra hrb
      have hmod := useS_mod hra hrb
      rw [← hum] at hub hmod
      repeat first
        | refine awl_val hτ rfl rfl rfl ?_
        | refine awl_nil ?_
        | refine aw_seq ?_
        | refine aw_region ?_
        | refine awl_skip rfl rfl ?_
        | refine aw_skip ?_
        | refine awl_valH hτ rfl rfl rfl ?_
      refine aw_block ?_
      repeat first
        | refine awl_val hτ rfl rfl rfl ?_
        | refine awl_nil ?_
        | refine aw_seq ?_
        | refine aw_region ?_
        | refine awl_skip rfl rfl ?_
        | refine aw_skip ?_
        | refine awl_valH hτ rfl rfl rfl ?_
      refine any_start ?_
      refine any_val hτ [0] 0 rfl rfl rfl rfl rfl ?_
      refine any_val hτ [0] 1 rfl rfl rfl rfl rfl ?_
      refine any_elem hτ [0] 2 rfl rfl rfl rfl rfl (by omega) (intD_get (by omega)) rfl ?_
      refine any_val hτ [0] 3 rfl rfl rfl rfl rfl ?_
      refine any_val hτ [0] 4 rfl rfl rfl rfl rfl ?_
      refine any_val hτ [0] 5 rfl rfl rfl rfl rfl ?_
      have eu : us.getD (m : Int).toNat 0 = us.getD m 0 := by rw [show (m : Int).toNat = m by omega]
      have q1 : decide (us.getD (m : Int).toNat 0 < 0) = false := by rw [eu]; exact decide_eq_false (by omega)
      have q2 : decide (us.getD (m : Int).toNat 0 ≥ ((10 ^ k : Nat) : Int)) = false := by rw [eu]; exact decide_eq_false (by omega)
      refine any_split 131 rfl (fun hb => Bool.noConfusion (hb.symm.trans q1)) (fun hb => ?_)
      clear hb
      refine any_val hτ [0] 6 rfl rfl rfl rfl rfl ?_
      refine any_val hτ [0] 7 rfl rfl rfl rfl rfl ?_
      refine any_elem hτ [0] 8 rfl rfl rfl rfl rfl (by omega) (intD_get (by omega)) rfl ?_
      refine any_val hτ [0] 9 rfl rfl rfl rfl rfl ?_
      refine any_val hτ [0] 10 rfl rfl rfl rfl rfl ?_
      refine any_val hτ [0] 11 rfl rfl rfl rfl rfl ?_
      refine any_val hτ [0] 12 rfl rfl rfl rfl rfl ?_
      refine any_val hτ [0] 13 rfl rfl rfl rfl rfl ?_
      refine any_split 139 rfl (fun hb => Bool.noConfusion (hb.symm.trans q2)) (fun hb => ?_)
      clear hb
      refine any_val hτ [0] 14 rfl rfl rfl rfl rfl ?_
      refine any_val hτ [0] 15 rfl rfl rfl rfl rfl ?_
      refine any_val hτ [0] 16 rfl rfl rfl rfl rfl ?_
      refine any_elem hτ [0] 17 rfl rfl rfl rfl rfl (by omega) (intD_get (by omega)) rfl ?_
      refine any_val hτ [0] 18 rfl rfl rfl rfl rfl ?_
      refine any_val hτ [0] 19 rfl rfl rfl rfl rfl ?_
      refine any_val hτ [0] 20 rfl rfl rfl rfl rfl ?_
      refine any_elem hτ [0] 21 rfl rfl rfl rfl rfl (by omega) (intD_get (by omega)) rfl ?_
      refine any_val hτ [0] 22 rfl rfl rfl rfl rfl ?_
      refine any_val hτ [0] 23 rfl rfl rfl rfl rfl ?_
      refine any_val hτ [0] 24 rfl rfl rfl rfl rfl ?_
      refine any_need hτ [0] 25 rfl rfl rfl rfl rfl (by omega) ?_
      refine any_val hτ [0] 26 rfl rfl rfl rfl rfl ?_
      refine any_val hτ [0] 27 rfl rfl rfl rfl rfl ?_
      refine any_val hτ [0] 28 rfl rfl rfl rfl rfl ?_
      refine any_val hτ [0] 29 rfl rfl rfl rfl rfl ?_
      have e1 : IntKind.wrap .i64 ((m : Int) + 1) = ((m + 1 : Nat) : Int) := by rw [wrap_id _ (by omega) (by omega)]; omega
      refine any_elem hτ [0] 30 rfl rfl rfl rfl rfl ?_ (intD_get ?_) rfl ?_
      · show (0 : Int) ≤ IntKind.wrap .i64 ((m : Int) + 1)
        rw [e1]; omega
      · show (IntKind.wrap .i64 ((m : Int) + 1)).toNat < rs.length
        rw [e1]; omega
      refine any_val hτ [0] 31 rfl rfl rfl rfl rfl ?_
      refine any_val hτ [0] 32 rfl rfl rfl rfl rfl ?_
      refine any_val hτ [0] 33 rfl rfl rfl rfl rfl ?_
      refine any_val hτ [0] 34 rfl rfl rfl rfl rfl ?_
      have q3 : ((IntKind.wrap .i64 (rs.getD (m : Int).toNat 0 + us.getD (m : Int).toNat 0)).tmod ((10 ^ k : Nat) : Int) != rs.getD (IntKind.wrap .i64 ((m : Int) + 1)).toNat 0) = false := by
        rw [e1, show (m : Int).toNat = m by omega, show ((m + 1 : Nat) : Int).toNat = m + 1 by omega, wrap_id (rs.getD m 0 + us.getD m 0) (by omega) (by omega), hmod]
        simp
      refine any_split 160 rfl (fun hb => Bool.noConfusion (hb.symm.trans q3)) (fun hb => ?_)
      clear hb
      refine any_val hτ [0] 35 rfl rfl rfl rfl rfl ?_
      refine any_val hτ [0] 36 rfl rfl rfl rfl rfl ?_
      refine any_elem hτ [0] 37 rfl rfl rfl rfl rfl (by omega) (intD_get (rs := List.replicate us.length 0) (by rw [List.length_replicate]; omega)) rfl ?_
      refine any_val hτ [0] 38 rfl rfl rfl rfl rfl ?_
      refine any_val hτ [0] 39 rfl rfl rfl rfl rfl ?_
      refine any_val hτ [0] 40 rfl rfl rfl rfl rfl ?_
      refine any_done mixed (by kernel_rfl) ?_
      repeat first
        | refine awl_val hτ rfl rfl rfl ?_
        | refine awl_nil ?_
        | refine aw_seq ?_
        | refine aw_region ?_
        | refine awl_skip rfl rfl ?_
        | refine aw_skip ?_
        | refine awl_valH hτ rfl rfl rfl ?_
      have q4 : ((List.replicate us.length (0 : Int)).getD (m : Int).toNat 0 != 0) = false := by
        rw [List.getD_eq_getElem?_getD, List.getElem?_replicate]
        split <;> rfl
      refine aw_cond rfl (fun hd => Bool.noConfusion (hd.symm.trans q4)) (fun hd => ?_)
      clear hd
      repeat first
        | refine awl_val hτ rfl rfl rfl ?_
        | refine awl_nil ?_
        | refine aw_seq ?_
        | refine aw_region ?_
        | refine awl_skip rfl rfl ?_
        | refine aw_skip ?_
        | refine awl_valH hτ rfl rfl rfl ?_
      refine awl_elem hτ rfl rfl rfl (by omega) (intD_get (by omega)) rfl ?_
      repeat first
        | refine awl_val hτ rfl rfl rfl ?_
        | refine awl_nil ?_
        | refine aw_seq ?_
        | refine aw_region ?_
        | refine awl_skip rfl rfl ?_
        | refine aw_skip ?_
        | refine awl_valH hτ rfl rfl rfl ?_
      have es : IntKind.wrap .i64 (s + us.getD (m : Int).toNat 0) = s + us.getD m 0 := by
        rw [eu]
        have h3 : s + us.getD m 0 ≤ 1000000000 * 257 := by omega
        exact wrap_id _ (by omega) (by omega)
      refine ⟨(IntKind.wrap .i64 (s + us.getD (m : Int).toNat 0), IntKind.wrap .i64 ((m : Int) + 1)), ⟨m + 1, e1, by omega, ?_, ?_, ?_⟩, ?_, weak_ofP [0] rfl (by simp) rfl (by repeat' first | exact trivial | refine ⟨?_, ?_⟩) ⟨rfl, trivial, rfl, trivial, rfl, trivial, rfl, trivial, rfl, trivial, rfl, trivial, rfl, trivial, rfl, trivial, rfl, trivial, rfl, trivial, rfl, trivial, trivial⟩⟩
      · show IntKind.wrap .i64 (s + us.getD (m : Int).toNat 0) + (us.drop (m + 1)).sum = us.sum
        rw [es, ← hsm, drop_cons (rs := us) (i := m) (by omega), List.sum_cons]; omega
      · show 0 ≤ IntKind.wrap .i64 (s + us.getD (m : Int).toNat 0)
        rw [es]; omega
      · show IntKind.wrap .i64 (s + us.getD (m : Int).toNat 0) ≤ ((m + 1 : Nat) : Int) * 1000000000
        rw [es]; omega
      · show us.length - (IntKind.wrap .i64 ((m : Int) + 1)).toNat < us.length - (m : Int).toNat
        rw [e1]; omega
    · simp only [decide_eq_false_iff_not] at hc
      rw [intD_length] at hc
      have hdn : us.drop m = [] := List.drop_eq_nil_iff.2 (by omega)
      rw [hdn] at hsm
      simp only [List.sum_nil, Int.add_zero] at hsm
      subst hsm
      refine aw_exit ?_
      repeat first
        | refine awl_val hτ rfl rfl rfl ?_
        | refine awl_nil ?_
        | refine aw_seq ?_
        | refine aw_region ?_
        | refine awl_skip rfl rfl ?_
        | refine aw_skip ?_
        | refine awl_valH hτ rfl rfl rfl ?_
      have q5 : (!(five == decide (us.sum > 0))) = false := by rw [hF.pos]; simp
      have r1 : (us.sum == us.sum) = true := by simp
      have r2 : (IntKind.wrap .i64 (IntKind.wrap .i64 (c0 + c1) + c2) == ((intD us).length : Int)) = true := by
        rw [intD_length, wrap_id (c0 + c1) (by omega) (by omega), wrap_id _ (by omega) (by omega), hsumc]; simp
      have r3 : decide (c0 ≥ 0) = true := decide_eq_true p0
      have r4 : decide (c1 ≥ 0) = true := decide_eq_true p1
      have r5 : decide (c2 ≥ 0) = true := decide_eq_true p2
      refine awl_split 178 rfl (fun hb => Bool.noConfusion (hb.symm.trans q5)) (fun hb => ?_)
      clear hb
      repeat first
        | refine awl_val hτ rfl rfl rfl ?_
        | refine awl_nil ?_
        | refine aw_seq ?_
        | refine aw_region ?_
        | refine awl_skip rfl rfl ?_
        | refine aw_skip ?_
        | refine awl_valH hτ rfl rfl rfl ?_
      refine awl_split 180 rfl (fun h5 => ?_) (fun h5 => ?_)
      · repeat first
          | refine awl_val hτ rfl rfl rfl ?_
          | refine awl_nil ?_
          | refine aw_seq ?_
          | refine aw_region ?_
          | refine awl_skip rfl rfl ?_
          | refine aw_skip ?_
          | refine awl_valH hτ rfl rfl rfl ?_
        refine awl_split 183 rfl (fun hb => Bool.noConfusion (hb.symm.trans (hF.least h5))) (fun hb => ?_)
        clear hb
        repeat first
          | refine awl_val hτ rfl rfl rfl ?_
          | refine awl_nil ?_
          | refine aw_seq ?_
          | refine aw_region ?_
          | refine awl_skip rfl rfl ?_
          | refine aw_skip ?_
          | refine awl_valH hτ rfl rfl rfl ?_
        refine aw_cond rfl (fun hd => Bool.noConfusion (hd.symm.trans (hF.most h5))) (fun hd => ?_)
        clear hd
        repeat first
          | refine awl_val hτ rfl rfl rfl ?_
          | refine awl_nil ?_
          | refine aw_seq ?_
          | refine aw_region ?_
          | refine awl_skip rfl rfl ?_
          | refine aw_skip ?_
          | refine awl_valH hτ rfl rfl rfl ?_
        refine any_start ?_
        refine any_val hτ [0] 0 rfl rfl rfl rfl rfl ?_
        refine any_val hτ [0] 1 rfl rfl rfl rfl rfl ?_
        refine any_val hτ [0] 2 rfl rfl rfl rfl rfl ?_
        refine any_val hτ [0] 3 rfl rfl rfl rfl rfl ?_
        refine any_split 192 rfl (fun hb => ?_) (fun hb => Bool.noConfusion (hb.symm.trans r1))
        clear hb
        refine any_val hτ [0] 4 rfl rfl rfl rfl rfl ?_
        refine any_elem hτ [0] 5 rfl rfl rfl rfl rfl (by decide) (e := [.int .i64 c0]) rfl rfl ?_
        refine any_val hτ [0] 6 rfl rfl rfl rfl rfl ?_
        refine any_val hτ [0] 7 rfl rfl rfl rfl rfl ?_
        refine any_elem hτ [0] 8 rfl rfl rfl rfl rfl (by decide) (e := [.int .i64 c1]) rfl rfl ?_
        refine any_val hτ [0] 9 rfl rfl rfl rfl rfl ?_
        refine any_val hτ [0] 10 rfl rfl rfl rfl rfl ?_
        refine any_val hτ [0] 11 rfl rfl rfl rfl rfl ?_
        refine any_elem hτ [0] 12 rfl rfl rfl rfl rfl (by decide) (e := [.int .i64 c2]) rfl rfl ?_
        refine any_val hτ [0] 13 rfl rfl rfl rfl rfl ?_
        refine any_val hτ [0] 14 rfl rfl rfl rfl rfl ?_
        refine any_val hτ [0] 15 rfl rfl rfl rfl rfl ?_
        refine any_val hτ [0] 16 rfl rfl rfl rfl rfl ?_
        refine any_val hτ [0] 17 rfl rfl rfl rfl rfl ?_
        refine any_val hτ [0] 18 rfl rfl rfl rfl rfl ?_
        refine any_val hτ [0] 19 rfl rfl rfl rfl rfl ?_
        refine any_split 208 rfl (fun hb => ?_) (fun hb => Bool.noConfusion (hb.symm.trans r2))
        clear hb
        refine any_val hτ [0] 20 rfl rfl rfl rfl rfl ?_
        refine any_elem hτ [0] 21 rfl rfl rfl rfl rfl (by decide) (e := [.int .i64 c0]) rfl rfl ?_
        refine any_val hτ [0] 22 rfl rfl rfl rfl rfl ?_
        refine any_val hτ [0] 23 rfl rfl rfl rfl rfl ?_
        refine any_val hτ [0] 24 rfl rfl rfl rfl rfl ?_
        refine any_val hτ [0] 25 rfl rfl rfl rfl rfl ?_
        refine any_split 214 rfl (fun hb => ?_) (fun hb => Bool.noConfusion (hb.symm.trans r3))
        clear hb
        refine any_val hτ [0] 26 rfl rfl rfl rfl rfl ?_
        refine any_elem hτ [0] 27 rfl rfl rfl rfl rfl (by decide) (e := [.int .i64 c1]) rfl rfl ?_
        refine any_val hτ [0] 28 rfl rfl rfl rfl rfl ?_
        refine any_val hτ [0] 29 rfl rfl rfl rfl rfl ?_
        refine any_val hτ [0] 30 rfl rfl rfl rfl rfl ?_
        refine any_val hτ [0] 31 rfl rfl rfl rfl rfl ?_
        refine any_split 220 rfl (fun hb => ?_) (fun hb => Bool.noConfusion (hb.symm.trans r4))
        clear hb
        refine any_val hτ [0] 32 rfl rfl rfl rfl rfl ?_
        refine any_elem hτ [0] 33 rfl rfl rfl rfl rfl (by decide) (e := [.int .i64 c2]) rfl rfl ?_
        refine any_val hτ [0] 34 rfl rfl rfl rfl rfl ?_
        refine any_val hτ [0] 35 rfl rfl rfl rfl rfl ?_
        refine any_val hτ [0] 36 rfl rfl rfl rfl rfl ?_
        refine any_val hτ [0] 37 rfl rfl rfl rfl rfl ?_
        refine any_done mixed (by kernel_rfl) ?_
        repeat first
          | refine awl_val hτ rfl rfl rfl ?_
          | refine awl_nil ?_
          | refine aw_seq ?_
          | refine aw_region ?_
          | refine awl_skip rfl rfl ?_
          | refine aw_skip ?_
          | refine awl_valH hτ rfl rfl rfl ?_
        refine aw_ret ?_
        refine ret_data (.inr rfl) rfl rfl (by repeat' first | exact trivial | refine ⟨?_, ?_⟩) (fun h => nomatch h) ⟨?_, rfl, rfl⟩
        show V.d (.bool (decide (c2 ≥ 0))) = _
        rw [r5]
      · repeat first
          | refine awl_val hτ rfl rfl rfl ?_
          | refine awl_nil ?_
          | refine aw_seq ?_
          | refine aw_region ?_
          | refine awl_skip rfl rfl ?_
          | refine aw_skip ?_
          | refine awl_valH hτ rfl rfl rfl ?_
        refine aw_cond rfl (fun hd => nomatch hd) (fun hd => ?_)
        clear hd
        repeat first
          | refine awl_val hτ rfl rfl rfl ?_
          | refine awl_nil ?_
          | refine aw_seq ?_
          | refine aw_region ?_
          | refine awl_skip rfl rfl ?_
          | refine aw_skip ?_
          | refine awl_valH hτ rfl rfl rfl ?_
        refine any_start ?_
        refine any_val hτ [0] 0 rfl rfl rfl rfl rfl ?_
        refine any_val hτ [0] 1 rfl rfl rfl rfl rfl ?_
        refine any_val hτ [0] 2 rfl rfl rfl rfl rfl ?_
        refine any_val hτ [0] 3 rfl rfl rfl rfl rfl ?_
        refine any_split 192 rfl (fun hb => ?_) (fun hb => Bool.noConfusion (hb.symm.trans r1))
        clear hb
        refine any_val hτ [0] 4 rfl rfl rfl rfl rfl ?_
        refine any_elem hτ [0] 5 rfl rfl rfl rfl rfl (by decide) (e := [.int .i64 c0]) rfl rfl ?_
        refine any_val hτ [0] 6 rfl rfl rfl rfl rfl ?_
        refine any_val hτ [0] 7 rfl rfl rfl rfl rfl ?_
        refine any_elem hτ [0] 8 rfl rfl rfl rfl rfl (by decide) (e := [.int .i64 c1]) rfl rfl ?_
        refine any_val hτ [0] 9 rfl rfl rfl rfl rfl ?_
        refine any_val hτ [0] 10 rfl rfl rfl rfl rfl ?_
        refine any_val hτ [0] 11 rfl rfl rfl rfl rfl ?_
        refine any_elem hτ [0] 12 rfl rfl rfl rfl rfl (by decide) (e := [.int .i64 c2]) rfl rfl ?_
        refine any_val hτ [0] 13 rfl rfl rfl rfl rfl ?_
        refine any_val hτ [0] 14 rfl rfl rfl rfl rfl ?_
        refine any_val hτ [0] 15 rfl rfl rfl rfl rfl ?_
        refine any_val hτ [0] 16 rfl rfl rfl rfl rfl ?_
        refine any_val hτ [0] 17 rfl rfl rfl rfl rfl ?_
        refine any_val hτ [0] 18 rfl rfl rfl rfl rfl ?_
        refine any_val hτ [0] 19 rfl rfl rfl rfl rfl ?_
        refine any_split 208 rfl (fun hb => ?_) (fun hb => Bool.noConfusion (hb.symm.trans r2))
        clear hb
        refine any_val hτ [0] 20 rfl rfl rfl rfl rfl ?_
        refine any_elem hτ [0] 21 rfl rfl rfl rfl rfl (by decide) (e := [.int .i64 c0]) rfl rfl ?_
        refine any_val hτ [0] 22 rfl rfl rfl rfl rfl ?_
        refine any_val hτ [0] 23 rfl rfl rfl rfl rfl ?_
        refine any_val hτ [0] 24 rfl rfl rfl rfl rfl ?_
        refine any_val hτ [0] 25 rfl rfl rfl rfl rfl ?_
        refine any_split 214 rfl (fun hb => ?_) (fun hb => Bool.noConfusion (hb.symm.trans r3))
        clear hb
        refine any_val hτ [0] 26 rfl rfl rfl rfl rfl ?_
        refine any_elem hτ [0] 27 rfl rfl rfl rfl rfl (by decide) (e := [.int .i64 c1]) rfl rfl ?_
        refine any_val hτ [0] 28 rfl rfl rfl rfl rfl ?_
        refine any_val hτ [0] 29 rfl rfl rfl rfl rfl ?_
        refine any_val hτ [0] 30 rfl rfl rfl rfl rfl ?_
        refine any_val hτ [0] 31 rfl rfl rfl rfl rfl ?_
        refine any_split 220 rfl (fun hb => ?_) (fun hb => Bool.noConfusion (hb.symm.trans r4))
        clear hb
        refine any_val hτ [0] 32 rfl rfl rfl rfl rfl ?_
        refine any_elem hτ [0] 33 rfl rfl rfl rfl rfl (by decide) (e := [.int .i64 c2]) rfl rfl ?_
        refine any_val hτ [0] 34 rfl rfl rfl rfl rfl ?_
        refine any_val hτ [0] 35 rfl rfl rfl rfl rfl ?_
        refine any_val hτ [0] 36 rfl rfl rfl rfl rfl ?_
        refine any_val hτ [0] 37 rfl rfl rfl rfl rfl ?_
        refine any_done mixed (by kernel_rfl) ?_
        repeat first
          | refine awl_val hτ rfl rfl rfl ?_
          | refine awl_nil ?_
          | refine aw_seq ?_
          | refine aw_region ?_
          | refine awl_skip rfl rfl ?_
          | refine aw_skip ?_
          | refine awl_valH hτ rfl rfl rfl ?_
        refine aw_ret ?_
        refine ret_data (.inr rfl) rfl rfl (by repeat' first | exact trivial | refine ⟨?_, ?_⟩) (fun h => nomatch h) ⟨?_, rfl, rfl⟩
        show V.d (.bool (decide (c2 ≥ 0))) = _
        rw [r5]
end Go.Proofs.Ytolggocnbakokaa.AWN

namespace Go.Proofs.Ytolggocnbakokaa.AWN
open Go Go.Proofs.Try Go.RowKit

def bsOf (len : Nat) (zs : List Int) : List UInt8 := (zs.take len).map fun z => UInt8.ofNat z.toNat

theorem rel_bytes {W : World} {ok : Nat → Prop} (hok : ∀ b, b < W.heap.size → ok b) {a : Option Addr} {len cap : Nat} {zs : List Int} (h : (a = none ∧ len = 0 ∧ cap = 0 ∧ zs = []) ∨
    ∃ x, a = some x ∧ len ≤ cap ∧ cap ≤ maxLen ∧ zs.length = cap ∧ (∀ i, i < zs.length → W.cell? (x.add i) = some (.int .u8 (zs.getD i 0))) ∧ ∀ n ∈ zs, 0 ≤ n ∧ n < 256) : RelD W ok (.sl false (byteD (bsOf len zs))) (.slice a len cap) := by
  rcases h with ⟨rfl, rfl, rfl, rfl⟩ | ⟨x, rfl, h1, h2, h3, h4, h5⟩
  · exact .slnil false
  · by_cases hc : cap = 0
    · have hl : len = 0 := by omega
      subst hc hl
      have : bsOf 0 zs = [] := by simp [bsOf]
      rw [this]
      exact .sle false x
    · have h0 := h4 0 (by omega)
      have hsp : x.spot = none := by
        cases hs : x.spot with
        | none => rfl
        | some s =>
          exfalso
          unfold World.cell? at h0
          simp only [Addr.add, hs] at h0
          split at h0 <;> simp [hs] at h0
      obtain ⟨b, o, sp⟩ := x
      simp only at hsp
      subst hsp
      have hbl : (byteD (bsOf len zs)).length = len := by simp [byteD, bsOf]; omega
      have hget : ∀ i, i < len → (byteD (bsOf len zs)).getD i [] = [.int .u8 (zs.getD i 0)] := by
        intro i hi
        have hz := h5 (zs.getD i 0) (by rw [List.getD_eq_getElem?_getD, List.getElem?_eq_getElem (by omega)]; exact List.getElem_mem _)
        have hil : i < zs.length := by omega
        simp [byteD, bsOf, List.getD_eq_getElem?_getD, List.getElem?_take, hi, hil] at hz ⊢
        omega
      refine .sl (sz := 1) (fun i _ => .int .u8 (zs.getD i 0)) (fun _ => hok b (cell_lt h0)) hbl h1 (fun h => nomatch h) (by omega) (fun i hi => by rw [hget i hi]; rfl) (fun i c hi hcc => ?_) (fun i c hi hcc => ?_)
      · have := h4 i (by omega)
        have hc0 : c = 0 := by omega
        subst hc0
        by_cases hi0 : i = 0
        · subst hi0; simpa [Addr.add] using this
        · simpa [Addr.add, hi0] using this
      · have hc0 : c = 0 := by omega
        subst hc0
        rw [hget i hi]
        exact .int _ _

theorem heapOf_nil (j : Nat) : heapOf [] j = .none := by simp [heapOf]
/-- A contract without objects, as the frame asks for it. -/
theorem top_of_acall {k : FuncId} {args : List V} {vals : Array Value} {W : World} (hc : ACall prog false k args [] (fun r o n => r = .d (.bool true) ∧ o = [] ∧ n = []))
    (hrel : RelL W (fun _ => none) (heapOf []) (okF W (fun _ => True) (fun _ => none) (heapOf []) W) args vals) : Calls prog k vals W (fun e W' => e = .returned (.bool true) ∧ Below W.heap.size W W') := by
  have hs : HSim W ⟨heapOf [], fun _ => none⟩ (fun _ => True) (fun _ => none) (heapOf []) ([] : List AObj).length W :=
    { obj := fun j => by unfold ObjOk; rw [heapOf_nil]; trivial, inj := fun i j b hi => absurd (heapOf_nil i) hi, hnd := fun j b hj => absurd (heapOf_nil j) hj, fresh := fun j _ => heapOf_nil j, ext := Ext.refl _ _, keep := MovesR.refl _ _ _ }
  refine (hc W ⟨heapOf [], fun _ => none⟩ (fun _ => none) (fun _ => True) vals rfl rfl hs hrel).mono fun e W' ⟨v, r, o, n, hb', he, ⟨hr, ho, hn⟩, _, hs', hv⟩ => ?_
  subst hr
  have := rel_bool hv
  subst this
  have hx := hs'.ext
  exact ⟨he, hx.os, hx.tape, hx.output, hx.size, fun k hk => hx.kept k hk (fun ⟨j, hj, _⟩ => hj (heapOf_nil j))⟩
end Go.Proofs.Ytolggocnbakokaa.AWN

namespace Go.Proofs.Ytolggocnbakokaa.AWN
open Go Go.Proofs.Try

theorem maxS_spec : ∀ (l : List Int) (m : Int), m ≤ maxS l m ∧ (∀ x ∈ l, x ≤ maxS l m) ∧ (maxS l m = m ∨ maxS l m ∈ l)
  | [], m => ⟨Int.le_refl _, (fun _ h => nomatch h), .inl rfl⟩
  | n :: r, m => by
    have hk : ((if n > m then n else m) = n ∧ m < n) ∨ ((if n > m then n else m) = m ∧ n ≤ m) := by
      split
      · exact .inl ⟨rfl, by omega⟩
      · exact .inr ⟨rfl, by omega⟩
    obtain ⟨h1, h2, h3⟩ := maxS_spec r (if n > m then n else m)
    unfold maxS
    generalize (if n > m then n else m) = k at *
    refine ⟨by omega, fun x hx => ?_, ?_⟩
    · rcases List.mem_cons.1 hx with rfl | hx
      · omega
      · exact h2 x hx
    · rcases h3 with h3 | h3
      · rw [h3]
        rcases hk with ⟨rfl, _⟩ | ⟨rfl, _⟩
        · exact .inr (List.mem_cons_self ..)
        · exact .inl rfl
      · exact .inr (List.mem_cons_of_mem _ h3)

theorem sum_le (l : List Int) (M : Int) (h : ∀ x ∈ l, 0 ≤ x ∧ x ≤ M) : 0 ≤ l.sum ∧ l.sum ≤ l.length * M := by
  induction l with
  | nil => simp
  | cons a r ih =>
    have h1 := h a (List.mem_cons_self ..)
    have h2 := ih fun x hx => h x (List.mem_cons_of_mem _ hx)
    rw [List.sum_cons, List.length_cons, Int.natCast_add, Int.add_mul]
    omega
theorem mem_le_sum (l : List Int) (h : ∀ x ∈ l, 0 ≤ x) : ∀ x ∈ l, x ≤ l.sum := by
  induction l with
  | nil => intro x hx; cases hx
  | cons a r ih =>
    intro x hx
    have h1 := h a (List.mem_cons_self ..)
    have h0 : 0 ≤ r.sum := by
      have := (sum_le r r.sum fun x hx => ⟨h x (List.mem_cons_of_mem _ hx), ih (fun y hy => h y (List.mem_cons_of_mem _ hy)) x hx⟩).1
      exact this
    rw [List.sum_cons]
    rcases List.mem_cons.1 hx with rfl | hx
    · omega
    · have := ih (fun y hy => h y (List.mem_cons_of_mem _ hy)) x hx
      omega

theorem ex64 {n : Nat} (h : n ≤ 1048576) : Ieee.double.leastPlace ≤ 0 ∧ Ex FloatKind.f64.format n 0 := by
  refine ⟨by decide, ?_, by decide, ?_⟩
  · have : FloatKind.f64.format.fractionBits + 1 = 53 := rfl
    rw [this]; omega
  · have hl : n.log2 ≤ 20 := by
      by_cases h0 : n = 0
      · subst h0; decide
      · have : n.log2 < 21 := (Nat.log2_lt h0).2 (by omega)
        omega
    have e1 : FloatKind.f64.format.leastPlace = -1074 := by decide
    have e2 : FloatKind.f64.format.fractionBits = 52 := rfl
    have e3 : maxRung FloatKind.f64.format = 2047 := by decide
    rw [e1, e2, e3]; omega

theorem near64 (n : Nat) : FloatKind.nearest .f64 (n : Int) = FloatKind.f64.format.nearest false n 0 := by
  show FloatKind.f64.format.nearest (decide ((n : Int) < 0)) (n : Int).natAbs 0 = _
  rw [decide_eq_false (by omega), Int.natAbs_natCast]

theorem num_ok (dg : Nat) (rs : List Int) (hg : GoodM dg rs) (h3 : dg ≤ 3) (l3 : 3 ≤ rs.length) (l7 : rs.length ≤ 7) : (fcmp .eql .f64 (lfP (usesS (10 ^ dg : Nat) rs)) 0 = false → ∃ w, fconv .f64 .f32 (lfQ (usesS (10 ^ dg : Nat) rs)) = some w) ∧
      (fcmp .eql .f64 (lfP (usesS (10 ^ dg : Nat) rs)) 0 = true → FacOk (usesS (10 ^ dg : Nat) rs) false 0) ∧ (fcmp .eql .f64 (lfP (usesS (10 ^ dg : Nat) rs)) 0 = false → ∀ w, fconv .f64 .f32 (lfQ (usesS (10 ^ dg : Nat) rs)) = some w → FacOk (usesS (10 ^ dg : Nat) rs) true w) := by
  obtain ⟨h1, h2⟩ := usesS_small hg.ok
  have hp : 10 ^ dg ≤ 10 ^ 3 := Nat.pow_le_pow_right (by decide) h3
  generalize hU : usesS (10 ^ dg : Nat) rs = us at *
  obtain ⟨m1, m2, m3⟩ := maxS_spec (us.drop 1) (us.getD 0 0)
  obtain ⟨u, r, hur⟩ : ∃ u r, us = u :: r := by
    cases us with
    | nil => simp at h1; omega
    | cons u r => exact ⟨u, r, rfl⟩
  have hd1 : us.drop 1 = r := by rw [hur]; rfl
  have hd0 : us.getD 0 0 = u := by rw [hur]; rfl
  have hM : ∀ x ∈ us, x ≤ maxS (us.drop 1) (us.getD 0 0) := by
    intro x hx
    rw [hur] at hx
    rcases List.mem_cons.1 hx with rfl | hx
    · rw [← hd0]; exact m1
    · exact m2 x (by rw [hd1]; exact hx)
  have hMm : maxS (us.drop 1) (us.getD 0 0) ∈ us := by
    rcases m3 with h | h
    · rw [h, hd0, hur]; exact List.mem_cons_self ..
    · rw [hd1] at h; rw [hd1]; generalize maxS r (us.getD 0 0) = z at *; rw [hur]; exact List.mem_cons_of_mem _ h
  unfold lfQ
  have hP : lfP us = farith .mul .f64 (FloatKind.nearest .f64 us.length) (FloatKind.nearest .f64 (maxS (us.drop 1) (us.getD 0 0))) := rfl
  rw [hP]
  generalize maxS (us.drop 1) (us.getD 0 0) = M at *
  have hMr := h2 M hMm
  obtain ⟨s0, s1⟩ := sum_le us M fun x hx => ⟨(h2 x hx).1, hM x hx⟩
  have s2 := mem_le_sum us (fun x hx => (h2 x hx).1) M hMm
  have hlen : us.length ≤ 6 := by omega
  have hlen0 : 2 ≤ us.length := by omega
  generalize hS : us.sum = S at *
  obtain ⟨m, rfl⟩ := Int.eq_ofNat_of_zero_le hMr.1
  obtain ⟨s, rfl⟩ := Int.eq_ofNat_of_zero_le s0
  have e1 := mul_ex (fmtOk .f64) false false (ex64 (n := us.length) (by omega)).2 (ex64 (n := m) (by omega)).2
  have hmul : farith .mul .f64 (FloatKind.nearest .f64 us.length) (FloatKind.nearest .f64 (m : Int)) = FloatKind.f64.format.nearest false (us.length * m) 0 := by
    rw [near64, near64]
    show (FloatKind.f64.format.mul _ _).getD _ = _
    rw [e1]; rfl
  have hlm : us.length * m ≤ 6 * m := Nat.mul_le_mul_right m hlen
  have hlm1 : 1 * m ≤ us.length * m := Nat.mul_le_mul_right m (by omega)
  rw [hmul, near64]
  have hcmp : fcmp .eql .f64 (FloatKind.f64.format.nearest false (us.length * m) 0) 0 = decide (m = 0) := by
    have hx := order_ofZ (fmtOk .f64) (x := (us.length * m : Nat)) (y := 0) (p := 0) (ex64 (by simp; omega)).2 (ex64 (by simp)).2
    have a1 : ofZ FloatKind.f64.format ((us.length * m : Nat) : Int) 0 = FloatKind.f64.format.nearest false (us.length * m) 0 := by
      unfold ofZ; rw [decide_eq_false (by omega), Int.natAbs_natCast]
    have a2 : ofZ FloatKind.f64.format 0 0 = 0 := by unfold ofZ; rfl
    rw [a1, a2] at hx
    show (FloatKind.f64.format.order _ _ == some .eq) = _
    rw [hx]
    by_cases hm : m = 0
    · subst hm; rfl
    · have hpos : 0 < us.length * m := Nat.mul_pos (by omega) (by omega)
      rw [decide_eq_false hm]
      have : compare ((us.length * m : Nat) : Int) 0 = .gt := by
        show compareOfLessAndEq (α := Int) _ _ = .gt
        unfold compareOfLessAndEq
        rw [if_neg (by omega), if_neg (by omega)]
      rw [this]; rfl
  rw [hcmp]
  have hsm : s ≤ us.length * m := by
    have : ((us.length * m : Nat) : Int) = (us.length : Int) * m := by simp
    omega
  by_cases hm : m = 0
  · refine ⟨fun h => by simp [hm] at h, fun _ => ⟨?_, fun h => by simp at h, fun h => by simp at h⟩, fun h => by simp [hm] at h⟩
    have hsz : s = 0 := by rw [hm] at hsm; omega
    subst hsz
    rw [hS]; rfl
  · have hs0 : 0 < s := by omega
    obtain ⟨q, hq1, hq2⟩ := quot_unit (fmtBig .f64) (ex64 (n := s) (by omega)).2 (ex64 (n := us.length * m) (by omega)).2 hs0 hsm (by omega) (by decide)
    have hqv : farith .quo .f64 (FloatKind.f64.format.nearest false s 0) (FloatKind.f64.format.nearest false (us.length * m) 0) = q := by
      show (FloatKind.f64.format.div _ _).getD _ = _
      rw [hq1]; rfl
    rw [hqv]
    obtain ⟨w, hw1, hw2⟩ := conv_unit (k := .f32) (s := .f64) hq2
    refine ⟨fun _ => ⟨w, hw1⟩, fun h => by simp [hm] at h, fun _ w' hw' => ?_⟩
    rw [hw1] at hw'
    obtain rfl := Option.some.inj hw'
    obtain ⟨o1, o2⟩ := unit_order (fmtBig .f32) hw2
    have one : FloatKind.f32.format.nearest false 1 0 = 1065353216 := by decide
    rw [one] at o1
    refine ⟨?_, fun _ => ?_, fun _ => ?_⟩
    · rw [hS]; symm; rw [decide_eq_true_eq]; omega
    · show (FloatKind.f32.format.order w 0 == some .lt || FloatKind.f32.format.order w 0 == some .eq) = false
      rw [o2]; rfl
    · show (FloatKind.f32.format.order w 1065353216 == some .gt) = false
      cases ho : FloatKind.f32.format.order w 1065353216 with
      | none => rfl
      | some o =>
        cases o
        · rfl
        · rfl
        · exact absurd ho o1
end Go.Proofs.Ytolggocnbakokaa.AWN
