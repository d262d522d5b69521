/- Models and contracts, printed by program. -/
import Derived.Test.YtdgkahieegcmeaaDoorJournalB
set_option linter.unusedVariables false
set_option linter.unusedSimpArgs false
set_option linter.unusedSectionVars false
set_option maxHeartbeats 2000000
namespace Go.Proofs.YtdgkahieegcmeaaDoor.AWN
open Go Go.Proofs.Tryd

def m_stringslite_IndexByte (n : Nat) (s_ : Str) (c_ : Int) : Option Int :=
  some (idxB s_ c_)
theorem stringslite_IndexByte_ok_fr0 (fr : Bool) (n : Nat) (s_ : Str) (c_ : Int) {r : Int} (h : m_stringslite_IndexByte n s_ c_ = some r) : ACall prog fr 116 [.d (.str (bstr s_)), .d (.int .u8 c_)] [] (fun v o new => v = .d (.int .i64 r) ∧ o = [] ∧ new = []) := by
  refine acall_of_aw hτ func116 rfl (by simp) (by simp) ?_
  unfold m_stringslite_IndexByte at h
  refine aw_seq ?_
  refine aw_region ?_
  refine awl_val hτ rfl rfl rfl ?_
  refine awl_nil ?_
  refine aw_seq ?_
  refine aw_region ?_
  refine awl_val hτ rfl rfl rfl ?_
  refine awl_val hτ rfl rfl rfl ?_
  refine awl_ext hτ rfl rfl rfl ext132 ?_
  refine awl_val hτ rfl rfl rfl ?_
  refine awl_nil ?_
  refine aw_weak (weak_ofP [] (l := [(4, .d (.int .i64 (idxB s_ c_)))]) (objs := []) rfl (by simp) rfl (by repeat' first | exact trivial | refine ⟨?_, ?_⟩) ⟨rfl, trivial, trivial⟩) ?_
  refine aw_ret ?_
  have hr := Option.some.inj h
  subst hr
  exact ret_objs (.inr rfl) [] (objs' := []) (new := []) rfl (by simp) (by simp) rfl (by repeat' first | exact trivial | refine ⟨?_, ?_⟩) rfl rfl (by repeat' first | exact trivial | refine ⟨?_, ?_⟩) (fun _ => ⟨by simp [V.flat, V.flatA, V.flatC, D.flat], flat_nil⟩) ⟨rfl, rfl, rfl⟩
theorem stringslite_IndexByte_ok (n : Nat) (s_ : Str) (c_ : Int) {r : Int} (h : m_stringslite_IndexByte n s_ c_ = some r) : ACall prog false 116 [.d (.str (bstr s_)), .d (.int .u8 c_)] [] (fun v o new => v = .d (.int .i64 r) ∧ o = [] ∧ new = []) := stringslite_IndexByte_ok_fr0 false n s_ c_ h
theorem stringslite_IndexByte_ok_fr (n : Nat) (s_ : Str) (c_ : Int) {r : Int} (h : m_stringslite_IndexByte n s_ c_ = some r) : ACall prog true 116 [.d (.str (bstr s_)), .d (.int .u8 c_)] [] (fun v o new => v = .d (.int .i64 r) ∧ o = [] ∧ new = []) := stringslite_IndexByte_ok_fr0 true n s_ c_ h

def m_stringslite_Index_j1 (n : Nat) (s_ : Str) (substr_ : Str) (v11 : Bool) : Option Int :=
  if v11 = true then
    some (0 : Int)
  else
    if (substr_.length : Int) = (1 : Int) then
      (getI substr_ (0 : Int)).bind fun x14 =>
      (m_stringslite_IndexByte n s_ (x14.toNat : Int)).bind fun x15 =>
      some x15
    else
      if (substr_.length : Int) ≥ (s_.length : Int) then
        some (-1 : Int)
      else
        none
def m_stringslite_Index (n : Nat) (s_ : Str) (substr_ : Str) : Option Int :=
  if (substr_.length : Int) = (0 : Int) then
    m_stringslite_Index_j1 n s_ substr_ true
  else
    m_stringslite_Index_j1 n s_ substr_ (decide (substr_ = s_))
theorem stringslite_Index_ok_fr0 (fr : Bool) (n : Nat) (s_ : Str) (substr_ : Str) {r : Int} (h : m_stringslite_Index n s_ substr_ = some r) : ACall prog fr 129 [.d (.str (bstr s_)), .d (.str (bstr substr_))] [] (fun v o new => v = .d (.int .i64 r) ∧ o = [] ∧ new = []) := by
  refine acall_of_aw hτ func129 rfl (by simp) (by simp) ?_
  unfold m_stringslite_Index at h
  refine aw_seq ?_
  refine aw_region ?_
  refine awl_val hτ rfl rfl rfl ?_
  refine awl_nil ?_
  refine aw_seq ?_
  refine aw_region ?_
  refine awl_val hτ rfl rfl rfl ?_
  refine awl_val hτ rfl rfl rfl ?_
  refine awl_val hτ rfl rfl rfl ?_
  refine awl_nil ?_
  refine aw_seq ?_
  refine aw_block ?_
  refine aw_hk1 (ι := Bool) (fun v11 => St.of [(0, .d (.str (bstr s_))), (1, .d (.str (bstr substr_))), (5, .d (.int .i64 (substr_.length : Int))), (16, .d (.bool v11))] [] f129.ntmps 0) (fun v11 => m_stringslite_Index_j1 n s_ substr_ v11 = some r) ?_ (fun hk17 => ?_)
  · rintro v11 h
    replace h : m_stringslite_Index_j1 n s_ substr_ v11 = some r := h
    unfold m_stringslite_Index_j1 at h
    refine aw_cond rfl (fun hc12 => ?_) (fun hc12 => ?_)
    · have h := if_bt h hc12
      refine aw_seq ?_
      refine aw_region ?_
      refine awl_val hτ rfl rfl rfl ?_
      refine awl_nil ?_
      refine aw_weak (weak_ofP [] (l := [(4, .d (.int .i64 (0 : Int)))]) (objs := []) rfl (by simp) rfl (by repeat' first | exact trivial | refine ⟨?_, ?_⟩) ⟨rfl, trivial, trivial⟩) ?_
      refine aw_ret ?_
      have hr := Option.some.inj h
      subst hr
      exact ret_objs (.inr rfl) [] (objs' := []) (new := []) rfl (by simp) (by simp) rfl (by repeat' first | exact trivial | refine ⟨?_, ?_⟩) rfl rfl (by repeat' first | exact trivial | refine ⟨?_, ?_⟩) (fun _ => ⟨by simp [V.flat, V.flatA, V.flatC, D.flat], flat_nil⟩) ⟨rfl, rfl, rfl⟩
    · have h := if_bf h hc12
      refine aw_seq ?_
      refine aw_region ?_
      refine awl_val hτ rfl rfl rfl ?_
      refine awl_val hτ (v := .d (.bool (decide ((substr_.length : Int) = (1 : Int))))) rfl rfl (or_ieq _ _) ?_
      refine awl_val hτ rfl rfl rfl ?_
      refine awl_nil ?_
      refine aw_cond rfl (fun hc13 => ?_) (fun hc13 => ?_)
      · have h := if_t h hc13
        refine aw_seq ?_
        refine aw_region ?_
        refine awl_val hτ rfl rfl rfl ?_
        refine awl_val hτ rfl rfl rfl ?_
        refine bnd_elim h fun x14 hx14 h => ?_
        refine awl_need hτ (v := .d (.int .u8 (x14.toNat : Int))) rfl rfl (Eq.trans rfl (or_sidx hx14)) (sidx_need hx14) ?_
        refine bnd_elim h fun x15 hx15 h => ?_
        refine awl_callP hτ false [] rfl rfl rfl (enterOk func116 rfl rfl) rfl rfl (by simp) ⟨trivial, trivial, trivial⟩ (by repeat' first | exact trivial | refine ⟨?_, ?_⟩) (stringslite_IndexByte_ok n s_ (x14.toNat : Int) hx15) ?_
        rintro r0 o0 n0 ⟨rfl, rfl, rfl⟩ -
        refine awl_val hτ rfl rfl rfl ?_
        refine awl_nil ?_
        refine aw_weak (weak_ofP [] (l := [(4, .d (.int .i64 x15))]) (objs := []) rfl (by simp) rfl (by repeat' first | exact trivial | refine ⟨?_, ?_⟩) ⟨rfl, trivial, trivial⟩) ?_
        refine aw_ret ?_
        have hr := Option.some.inj h
        subst hr
        exact ret_objs (.inr rfl) [] (objs' := []) (new := []) rfl (by simp) (by simp) rfl (by repeat' first | exact trivial | refine ⟨?_, ?_⟩) rfl rfl (by repeat' first | exact trivial | refine ⟨?_, ?_⟩) (fun _ => ⟨by simp [V.flat, V.flatA, V.flatC, D.flat], flat_nil⟩) ⟨rfl, rfl, rfl⟩
      · have h := if_f h hc13
        refine aw_seq ?_
        refine aw_region ?_
        refine awl_val hτ rfl rfl rfl ?_
        refine awl_val hτ rfl rfl rfl ?_
        refine awl_val hτ rfl rfl rfl ?_
        refine awl_val hτ rfl rfl rfl ?_
        refine awl_val hτ rfl rfl rfl ?_
        refine awl_nil ?_
        refine aw_weak (weak_ofP [] (l := [(0, .d (.str (bstr s_))), (1, .d (.str (bstr substr_))), (5, .d (.int .i64 (substr_.length : Int))), (31, .d (.bool (decide ((substr_.length : Int) ≥ (s_.length : Int)))))]) (objs := []) rfl (by simp) rfl (by repeat' first | exact trivial | refine ⟨?_, ?_⟩) ⟨rfl, trivial, rfl, trivial, rfl, trivial, rfl, trivial, trivial⟩) ?_
        refine aw_cond rfl (fun hc16 => ?_) (fun hc16 => ?_)
        · have h := if_t h hc16
          refine aw_seq ?_
          refine aw_region ?_
          refine awl_val hτ rfl rfl rfl ?_
          refine awl_nil ?_
          refine aw_weak (weak_ofP [] (l := [(4, .d (.int .i64 (-1 : Int)))]) (objs := []) rfl (by simp) rfl (by repeat' first | exact trivial | refine ⟨?_, ?_⟩) ⟨rfl, trivial, trivial⟩) ?_
          refine aw_ret ?_
          have hr := Option.some.inj h
          subst hr
          exact ret_objs (.inr rfl) [] (objs' := []) (new := []) rfl (by simp) (by simp) rfl (by repeat' first | exact trivial | refine ⟨?_, ?_⟩) rfl rfl (by repeat' first | exact trivial | refine ⟨?_, ?_⟩) (fun _ => ⟨by simp [V.flat, V.flatA, V.flatC, D.flat], flat_nil⟩) ⟨rfl, rfl, rfl⟩
        · have h := if_f h hc16
          refine aw_seq ?_
          refine aw_region ?_
          refine awl_val hτ rfl rfl rfl ?_
          exact nomatch h
  · refine aw_seq ?_
    refine aw_region ?_
    refine awl_val hτ rfl rfl rfl ?_
    refine awl_val hτ (v := .d (.bool (decide ((substr_.length : Int) = (0 : Int))))) rfl rfl (or_ieq _ _) ?_
    refine awl_val hτ rfl rfl rfl ?_
    refine awl_split 19 rfl (fun hb18 => ?_) (fun hb18 => ?_)
    · have h := if_t h hb18
      refine awl_skip rfl rfl ?_
      refine awl_skip rfl rfl ?_
      refine awl_skip rfl rfl ?_
      refine awl_val hτ rfl rfl rfl ?_
      refine awl_val hτ rfl rfl rfl ?_
      refine awl_nil ?_
      refine aw_weak (weak_ofP [] (l := [(0, .d (.str (bstr s_))), (1, .d (.str (bstr substr_))), (5, .d (.int .i64 (substr_.length : Int))), (16, .d (.bool true))]) (objs := []) rfl (by simp) rfl (by repeat' first | exact trivial | refine ⟨?_, ?_⟩) ⟨rfl, trivial, rfl, trivial, rfl, trivial, rfl, trivial, trivial⟩) ?_
      exact hk17 true h
    · have h := if_f h hb18
      refine awl_val hτ rfl rfl rfl ?_
      refine awl_val hτ rfl rfl rfl ?_
      refine awl_val hτ (v := .d (.bool (decide (substr_ = s_)))) rfl rfl (or_seq _ _) ?_
      refine awl_val hτ rfl rfl rfl ?_
      refine awl_val hτ rfl rfl rfl ?_
      refine awl_nil ?_
      refine aw_weak (weak_ofP [] (l := [(0, .d (.str (bstr s_))), (1, .d (.str (bstr substr_))), (5, .d (.int .i64 (substr_.length : Int))), (16, .d (.bool (decide (substr_ = s_))))]) (objs := []) rfl (by simp) rfl (by repeat' first | exact trivial | refine ⟨?_, ?_⟩) ⟨rfl, trivial, rfl, trivial, rfl, trivial, rfl, trivial, trivial⟩) ?_
      exact hk17 (decide (substr_ = s_)) h
theorem stringslite_Index_ok (n : Nat) (s_ : Str) (substr_ : Str) {r : Int} (h : m_stringslite_Index n s_ substr_ = some r) : ACall prog false 129 [.d (.str (bstr s_)), .d (.str (bstr substr_))] [] (fun v o new => v = .d (.int .i64 r) ∧ o = [] ∧ new = []) := stringslite_Index_ok_fr0 false n s_ substr_ h
theorem stringslite_Index_ok_fr (n : Nat) (s_ : Str) (substr_ : Str) {r : Int} (h : m_stringslite_Index n s_ substr_ = some r) : ACall prog true 129 [.d (.str (bstr s_)), .d (.str (bstr substr_))] [] (fun v o new => v = .d (.int .i64 r) ∧ o = [] ∧ new = []) := stringslite_Index_ok_fr0 true n s_ substr_ h

def m_strings_Index (n : Nat) (s_ : Str) (substr_ : Str) : Option Int :=
  (m_stringslite_Index n s_ substr_).bind fun x2 =>
  some x2
theorem strings_Index_ok_fr0 (fr : Bool) (n : Nat) (s_ : Str) (substr_ : Str) {r : Int} (h : m_strings_Index n s_ substr_ = some r) : ACall prog fr 113 [.d (.str (bstr s_)), .d (.str (bstr substr_))] [] (fun v o new => v = .d (.int .i64 r) ∧ o = [] ∧ new = []) := by
  refine acall_of_aw hτ func113 rfl (by simp) (by simp) ?_
  unfold m_strings_Index at h
  refine aw_seq ?_
  refine aw_region ?_
  refine awl_val hτ rfl rfl rfl ?_
  refine awl_nil ?_
  refine aw_seq ?_
  refine aw_region ?_
  refine awl_val hτ rfl rfl rfl ?_
  refine awl_val hτ rfl rfl rfl ?_
  refine bnd_elim h fun x2 hx2 h => ?_
  refine awl_callP hτ false [] rfl rfl rfl (enterOk func129 rfl rfl) rfl rfl (by simp) ⟨trivial, trivial, trivial⟩ (by repeat' first | exact trivial | refine ⟨?_, ?_⟩) (stringslite_Index_ok n s_ substr_ hx2) ?_
  rintro r0 o0 n0 ⟨rfl, rfl, rfl⟩ -
  refine awl_val hτ rfl rfl rfl ?_
  refine awl_nil ?_
  refine aw_weak (weak_ofP [] (l := [(4, .d (.int .i64 x2))]) (objs := []) rfl (by simp) rfl (by repeat' first | exact trivial | refine ⟨?_, ?_⟩) ⟨rfl, trivial, trivial⟩) ?_
  refine aw_ret ?_
  have hr := Option.some.inj h
  subst hr
  exact ret_objs (.inr rfl) [] (objs' := []) (new := []) rfl (by simp) (by simp) rfl (by repeat' first | exact trivial | refine ⟨?_, ?_⟩) rfl rfl (by repeat' first | exact trivial | refine ⟨?_, ?_⟩) (fun _ => ⟨by simp [V.flat, V.flatA, V.flatC, D.flat], flat_nil⟩) ⟨rfl, rfl, rfl⟩
theorem strings_Index_ok (n : Nat) (s_ : Str) (substr_ : Str) {r : Int} (h : m_strings_Index n s_ substr_ = some r) : ACall prog false 113 [.d (.str (bstr s_)), .d (.str (bstr substr_))] [] (fun v o new => v = .d (.int .i64 r) ∧ o = [] ∧ new = []) := strings_Index_ok_fr0 false n s_ substr_ h
theorem strings_Index_ok_fr (n : Nat) (s_ : Str) (substr_ : Str) {r : Int} (h : m_strings_Index n s_ substr_ = some r) : ACall prog true 113 [.d (.str (bstr s_)), .d (.str (bstr substr_))] [] (fun v o new => v = .d (.int .i64 r) ∧ o = [] ∧ new = []) := strings_Index_ok_fr0 true n s_ substr_ h

def m_strings_Contains (n : Nat) (s_ : Str) (substr_ : Str) : Option Bool :=
  (m_strings_Index n s_ substr_).bind fun x2 =>
  some (decide (x2 ≥ (0 : Int)))
theorem strings_Contains_ok_fr0 (fr : Bool) (n : Nat) (s_ : Str) (substr_ : Str) {r : Bool} (h : m_strings_Contains n s_ substr_ = some r) : ACall prog fr 80 [.d (.str (bstr s_)), .d (.str (bstr substr_))] [] (fun v o new => v = .d (.bool r) ∧ o = [] ∧ new = []) := by
  refine acall_of_aw hτ func80 rfl (by simp) (by simp) ?_
  unfold m_strings_Contains at h
  refine aw_seq ?_
  refine aw_region ?_
  refine awl_val hτ rfl rfl rfl ?_
  refine awl_nil ?_
  refine aw_seq ?_
  refine aw_region ?_
  refine awl_val hτ rfl rfl rfl ?_
  refine awl_val hτ rfl rfl rfl ?_
  refine bnd_elim h fun x2 hx2 h => ?_
  refine awl_callP hτ false [] rfl rfl rfl (enterOk func113 rfl rfl) rfl rfl (by simp) ⟨trivial, trivial, trivial⟩ (by repeat' first | exact trivial | refine ⟨?_, ?_⟩) (strings_Index_ok n s_ substr_ hx2) ?_
  rintro r0 o0 n0 ⟨rfl, rfl, rfl⟩ -
  refine awl_val hτ rfl rfl rfl ?_
  refine awl_val hτ rfl rfl rfl ?_
  refine awl_nil ?_
  refine aw_weak (weak_ofP [] (l := [(4, .d (.bool (decide (x2 ≥ (0 : Int)))))]) (objs := []) rfl (by simp) rfl (by repeat' first | exact trivial | refine ⟨?_, ?_⟩) ⟨rfl, trivial, trivial⟩) ?_
  refine aw_ret ?_
  have hr := Option.some.inj h
  subst hr
  exact ret_objs (.inr rfl) [] (objs' := []) (new := []) rfl (by simp) (by simp) rfl (by repeat' first | exact trivial | refine ⟨?_, ?_⟩) rfl rfl (by repeat' first | exact trivial | refine ⟨?_, ?_⟩) (fun _ => ⟨by simp [V.flat, V.flatA, V.flatC, D.flat], flat_nil⟩) ⟨rfl, rfl, rfl⟩
theorem strings_Contains_ok (n : Nat) (s_ : Str) (substr_ : Str) {r : Bool} (h : m_strings_Contains n s_ substr_ = some r) : ACall prog false 80 [.d (.str (bstr s_)), .d (.str (bstr substr_))] [] (fun v o new => v = .d (.bool r) ∧ o = [] ∧ new = []) := strings_Contains_ok_fr0 false n s_ substr_ h
theorem strings_Contains_ok_fr (n : Nat) (s_ : Str) (substr_ : Str) {r : Bool} (h : m_strings_Contains n s_ substr_ = some r) : ACall prog true 80 [.d (.str (bstr s_)), .d (.str (bstr substr_))] [] (fun v o new => v = .d (.bool r) ∧ o = [] ∧ new = []) := strings_Contains_ok_fr0 true n s_ substr_ h

def m_impl_in (n : Nat) (n_ : Int) (low_ : Int) (high_ : Int) : Option Bool :=
  if n_ ≥ low_ then
    some (decide (n_ ≤ high_))
  else
    some false
theorem impl_in_ok_fr0 (fr : Bool) (n : Nat) (n_ : Int) (low_ : Int) (high_ : Int) {r : Bool} (h : m_impl_in n n_ low_ high_ = some r) : ACall prog fr 59 [.d (.int .i64 n_), .d (.int .i64 low_), .d (.int .i64 high_)] [] (fun v o new => v = .d (.bool r) ∧ o = [] ∧ new = []) := by
  refine acall_of_aw hτ func59 rfl (by simp) (by simp) ?_
  unfold m_impl_in at h
  refine aw_seq ?_
  refine aw_region ?_
  refine awl_val hτ rfl rfl rfl ?_
  refine awl_nil ?_
  refine aw_seq ?_
  refine aw_region ?_
  refine awl_val hτ rfl rfl rfl ?_
  refine awl_val hτ rfl rfl rfl ?_
  refine awl_val hτ rfl rfl rfl ?_
  refine awl_val hτ rfl rfl rfl ?_
  refine awl_split 10 rfl (fun hb3 => ?_) (fun hb3 => ?_)
  · have h := if_t h hb3
    refine awl_val hτ rfl rfl rfl ?_
    refine awl_val hτ rfl rfl rfl ?_
    refine awl_val hτ rfl rfl rfl ?_
    refine awl_val hτ rfl rfl rfl ?_
    refine awl_val hτ rfl rfl rfl ?_
    refine awl_nil ?_
    refine aw_weak (weak_ofP [] (l := [(6, .d (.bool (decide (n_ ≤ high_))))]) (objs := []) rfl (by simp) rfl (by repeat' first | exact trivial | refine ⟨?_, ?_⟩) ⟨rfl, trivial, trivial⟩) ?_
    refine aw_ret ?_
    have hr := Option.some.inj h
    subst hr
    exact ret_objs (.inr rfl) [] (objs' := []) (new := []) rfl (by simp) (by simp) rfl (by repeat' first | exact trivial | refine ⟨?_, ?_⟩) rfl rfl (by repeat' first | exact trivial | refine ⟨?_, ?_⟩) (fun _ => ⟨by simp [V.flat, V.flatA, V.flatC, D.flat], flat_nil⟩) ⟨rfl, rfl, rfl⟩
  · have h := if_f h hb3
    refine awl_skip rfl rfl ?_
    refine awl_skip rfl rfl ?_
    refine awl_skip rfl rfl ?_
    refine awl_val hτ rfl rfl rfl ?_
    refine awl_val hτ rfl rfl rfl ?_
    refine awl_nil ?_
    refine aw_weak (weak_ofP [] (l := [(6, .d (.bool false))]) (objs := []) rfl (by simp) rfl (by repeat' first | exact trivial | refine ⟨?_, ?_⟩) ⟨rfl, trivial, trivial⟩) ?_
    refine aw_ret ?_
    have hr := Option.some.inj h
    subst hr
    exact ret_objs (.inr rfl) [] (objs' := []) (new := []) rfl (by simp) (by simp) rfl (by repeat' first | exact trivial | refine ⟨?_, ?_⟩) rfl rfl (by repeat' first | exact trivial | refine ⟨?_, ?_⟩) (fun _ => ⟨by simp [V.flat, V.flatA, V.flatC, D.flat], flat_nil⟩) ⟨rfl, rfl, rfl⟩
theorem impl_in_ok (n : Nat) (n_ : Int) (low_ : Int) (high_ : Int) {r : Bool} (h : m_impl_in n n_ low_ high_ = some r) : ACall prog false 59 [.d (.int .i64 n_), .d (.int .i64 low_), .d (.int .i64 high_)] [] (fun v o new => v = .d (.bool r) ∧ o = [] ∧ new = []) := impl_in_ok_fr0 false n n_ low_ high_ h
theorem impl_in_ok_fr (n : Nat) (n_ : Int) (low_ : Int) (high_ : Int) {r : Bool} (h : m_impl_in n n_ low_ high_ = some r) : ACall prog true 59 [.d (.int .i64 n_), .d (.int .i64 low_), .d (.int .i64 high_)] [] (fun v o new => v = .d (.bool r) ∧ o = [] ∧ new = []) := impl_in_ok_fr0 true n n_ low_ high_ h

def m_impl_CheckOf_l1 (n : Nat) (s_ : Str) : Nat → Int → Int → Option (Int × Bool)
  | 0, _, _ => none
  | m17 + 1, v12, v13 =>
    if v13 < (s_.length : Int) then
      (getI s_ v13).bind fun x20 =>
      (m_impl_CheckOf_l1 n s_ m17) ((w64 ((w64 ((w64 ((691 : Int) * v12)) + (w64 ((x20.toNat : Int))))) + (43 : Int))).tmod (65003 : Int)) (w64 (v13 + (1 : Int)))
    else
      some (v12, true)
def m_impl_CheckOf (n : Nat) (start_ : Int) (s_ : Str) : Option (Int × Bool) :=
  (m_impl_in n start_ (0 : Int) (65002 : Int)).bind fun x9 =>
  if x9 = true then
    m_impl_CheckOf_l1 n s_ n start_ (0 : Int)
  else
    some ((0 : Int), false)
theorem impl_CheckOf_ok_fr0 (fr : Bool) (n : Nat) (start_ : Int) (s_ : Str) {r : Int × Bool} (h : m_impl_CheckOf n start_ s_ = some r) : ACall prog fr 82 [.d (.int .i64 start_), .d (.str (bstr s_))] [] (fun v o new => v = .tup [.d (.int .i64 r.1), .d (.bool r.2)] ∧ o = [] ∧ new = []) := by
  refine acall_of_aw hτ func82 rfl (by simp) (by simp) ?_
  unfold m_impl_CheckOf at h
  refine aw_seq ?_
  refine aw_region ?_
  refine awl_val hτ rfl rfl rfl ?_
  refine awl_val hτ rfl rfl rfl ?_
  refine awl_nil ?_
  refine aw_seq ?_
  refine aw_seq ?_
  refine aw_region ?_
  refine awl_val hτ rfl rfl rfl ?_
  refine bnd_elim h fun x9 hx9 h => ?_
  refine awl_callP hτ false [] rfl rfl rfl (enterOk func59 rfl rfl) rfl rfl (by simp) ⟨trivial, trivial, trivial, trivial⟩ (by repeat' first | exact trivial | refine ⟨?_, ?_⟩) (impl_in_ok n start_ (0 : Int) (65002 : Int) hx9) ?_
  rintro r0 o0 n0 ⟨rfl, rfl, rfl⟩ -
  refine awl_val hτ rfl rfl rfl ?_
  refine awl_nil ?_
  refine aw_cond rfl (fun hc10 => ?_) (fun hc10 => ?_)
  · have hc10 := not_t hc10
    have h := if_bf h hc10
    refine aw_seq ?_
    refine aw_region ?_
    refine awl_val hτ rfl rfl rfl ?_
    refine awl_val hτ rfl rfl rfl ?_
    refine awl_nil ?_
    refine aw_weak (weak_ofP [] (l := [(4, .d (.int .i64 (0 : Int))), (5, .d (.bool false))]) (objs := []) rfl (by simp) rfl (by repeat' first | exact trivial | refine ⟨?_, ?_⟩) ⟨rfl, trivial, rfl, trivial, trivial⟩) ?_
    refine aw_ret ?_
    have hr := Option.some.inj h
    subst hr
    exact ret_objs (.inr rfl) [] (objs' := []) (new := []) rfl (by simp) (by simp) rfl (by repeat' first | exact trivial | refine ⟨?_, ?_⟩) rfl rfl (by repeat' first | exact trivial | refine ⟨?_, ?_⟩) (fun _ => ⟨by simp [V.flat, V.flatA, V.flatC, D.flat], flat_nil⟩) ⟨rfl, rfl, rfl⟩
  · have hc10 := not_f hc10
    have h := if_bt h hc10
    refine aw_skip ?_
    refine aw_seq ?_
    refine aw_seq ?_
    refine aw_region ?_
    refine awl_val hτ rfl rfl rfl ?_
    refine awl_val hτ rfl rfl rfl ?_
    refine awl_val hτ rfl rfl rfl ?_
    refine awl_nil ?_
    refine aw_block ?_
    refine aw_loop (ι := Nat × Int × Int) (fun (m17, v12, v13) => St.of [(0, .d (.int .i64 v12)), (1, .d (.str (bstr s_))), (11, .d (.int .i64 (s_.length : Int))), (12, .d (.int .i64 v13))] [] f82.ntmps 0) (fun (m17, v12, v13) => m_impl_CheckOf_l1 n s_ m17 v12 v13 = some r) (fun x => x.1) (n, start_, (0 : Int)) h (weak_ofP [] (l := [(0, .d (.int .i64 start_)), (1, .d (.str (bstr s_))), (11, .d (.int .i64 (s_.length : Int))), (12, .d (.int .i64 (0 : Int)))]) (objs := []) rfl (by simp) rfl (by repeat' first | exact trivial | refine ⟨?_, ?_⟩) ⟨rfl, trivial, rfl, trivial, rfl, trivial, rfl, trivial, trivial⟩) ?_
    rintro ⟨m17, v12, v13⟩ h
    replace h : m_impl_CheckOf_l1 n s_ m17 v12 v13 = some r := h
    rcases m17 with _ | m17
    · rw [m_impl_CheckOf_l1] at h; cases h
    rw [m_impl_CheckOf_l1] at h
    refine aw_seq ?_
    refine aw_region ?_
    refine awl_val hτ rfl rfl rfl ?_
    refine awl_nil ?_
    refine aw_seq ?_
    refine aw_cond rfl (fun hc19 => ?_) (fun hc19 => ?_)
    · have h := if_t h hc19
      refine aw_skip ?_
      refine aw_seq ?_
      refine aw_block ?_
      refine aw_seq ?_
      refine aw_region ?_
      refine awl_val hτ rfl rfl rfl ?_
      refine awl_val hτ rfl rfl rfl ?_
      refine awl_nil ?_
      refine aw_region ?_
      refine awl_val hτ rfl rfl rfl ?_
      refine awl_val hτ rfl rfl rfl ?_
      refine awl_val hτ rfl rfl rfl ?_
      refine awl_val hτ rfl rfl rfl ?_
      refine bnd_elim h fun x20 hx20 h => ?_
      refine awl_need hτ (v := .d (.int .u8 (x20.toNat : Int))) rfl rfl (Eq.trans rfl (or_sidx hx20)) (sidx_need hx20) ?_
      refine awl_val hτ rfl rfl rfl ?_
      refine awl_val hτ rfl rfl rfl ?_
      refine awl_val hτ rfl rfl rfl ?_
      refine awl_need hτ rfl rfl rfl (by decide) ?_
      refine awl_weak (weak_ofP [] (l := [(0, .d (.int .i64 v12)), (1, .d (.str (bstr s_))), (11, .d (.int .i64 (s_.length : Int))), (12, .d (.int .i64 v13)), (23, .d (.int .i64 ((w64 ((w64 ((w64 ((691 : Int) * v12)) + (w64 ((x20.toNat : Int))))) + (43 : Int))).tmod (65003 : Int))))]) (objs := []) rfl (by simp) rfl (by repeat' first | exact trivial | refine ⟨?_, ?_⟩) ⟨rfl, trivial, rfl, trivial, rfl, trivial, rfl, trivial, rfl, trivial, trivial⟩) ?_
      refine awl_val hτ rfl rfl rfl ?_
      refine awl_nil ?_
      refine aw_region ?_
      refine awl_val hτ rfl rfl rfl ?_
      refine awl_val hτ rfl rfl rfl ?_
      refine awl_nil ?_
      exact ⟨(m17, ((w64 ((w64 ((w64 ((691 : Int) * v12)) + (w64 ((x20.toNat : Int))))) + (43 : Int))).tmod (65003 : Int)), (w64 (v13 + (1 : Int)))), h, Nat.lt_succ_self m17, (weak_ofP [] (l := [(0, .d (.int .i64 ((w64 ((w64 ((w64 ((691 : Int) * v12)) + (w64 ((x20.toNat : Int))))) + (43 : Int))).tmod (65003 : Int)))), (1, .d (.str (bstr s_))), (11, .d (.int .i64 (s_.length : Int))), (12, .d (.int .i64 (w64 (v13 + (1 : Int)))))]) (objs := []) rfl (by simp) rfl (by repeat' first | exact trivial | refine ⟨?_, ?_⟩) ⟨rfl, trivial, rfl, trivial, rfl, trivial, rfl, trivial, trivial⟩)⟩
    · have h := if_f h hc19
      refine aw_exit ?_
      refine aw_seq ?_
      refine aw_region ?_
      refine awl_val hτ rfl rfl rfl ?_
      refine awl_val hτ rfl rfl rfl ?_
      refine awl_val hτ rfl rfl rfl ?_
      refine awl_nil ?_
      refine aw_weak (weak_ofP [] (l := [(4, .d (.int .i64 v12)), (5, .d (.bool true))]) (objs := []) rfl (by simp) rfl (by repeat' first | exact trivial | refine ⟨?_, ?_⟩) ⟨rfl, trivial, rfl, trivial, trivial⟩) ?_
      refine aw_ret ?_
      have hr := Option.some.inj h
      subst hr
      exact ret_objs (.inr rfl) [] (objs' := []) (new := []) rfl (by simp) (by simp) rfl (by repeat' first | exact trivial | refine ⟨?_, ?_⟩) rfl rfl (by repeat' first | exact trivial | refine ⟨?_, ?_⟩) (fun _ => ⟨by simp [V.flat, V.flatA, V.flatC, D.flat], flat_nil⟩) ⟨rfl, rfl, rfl⟩
theorem impl_CheckOf_ok (n : Nat) (start_ : Int) (s_ : Str) {r : Int × Bool} (h : m_impl_CheckOf n start_ s_ = some r) : ACall prog false 82 [.d (.int .i64 start_), .d (.str (bstr s_))] [] (fun v o new => v = .tup [.d (.int .i64 r.1), .d (.bool r.2)] ∧ o = [] ∧ new = []) := impl_CheckOf_ok_fr0 false n start_ s_ h
theorem impl_CheckOf_ok_fr (n : Nat) (start_ : Int) (s_ : Str) {r : Int × Bool} (h : m_impl_CheckOf n start_ s_ = some r) : ACall prog true 82 [.d (.int .i64 start_), .d (.str (bstr s_))] [] (fun v o new => v = .tup [.d (.int .i64 r.1), .d (.bool r.2)] ∧ o = [] ∧ new = []) := impl_CheckOf_ok_fr0 true n start_ s_ h

def m_strconv_FormatInt (n : Nat) (x b : Int) : Option Str := dec10 x b
theorem strconv_FormatInt_ok (n : Nat) (x b : Int) {r : Str} (h : m_strconv_FormatInt n x b = some r) : ACall prog false 115 [.d (.int .i64 x), .d (.int .i64 b)] [] (fun v o new => v = .d (.str (bstr r)) ∧ o = [] ∧ new = []) := acall_quiet (dec_does h)
theorem strconv_FormatInt_ok_fr (n : Nat) (x b : Int) {r : Str} (h : m_strconv_FormatInt n x b = some r) : ACall prog true 115 [.d (.int .i64 x), .d (.int .i64 b)] [] (fun v o new => v = .d (.str (bstr r)) ∧ o = [] ∧ new = []) := acall_quiet (dec_does h)

def m_impl_Decimal (n : Nat) (n_ : Int) : Option Str :=
  (m_strconv_FormatInt n n_ (10 : Int)).bind fun x2 =>
  some x2
theorem impl_Decimal_ok_fr0 (fr : Bool) (n : Nat) (n_ : Int) {r : Str} (h : m_impl_Decimal n n_ = some r) : ACall prog fr 84 [.d (.int .i64 n_)] [] (fun v o new => v = .d (.str (bstr r)) ∧ o = [] ∧ new = []) := by
  refine acall_of_aw hτ func84 rfl (by simp) (by simp) ?_
  unfold m_impl_Decimal at h
  refine aw_seq ?_
  refine aw_region ?_
  refine awl_val hτ rfl rfl rfl ?_
  refine awl_nil ?_
  refine aw_seq ?_
  refine aw_region ?_
  refine awl_val hτ rfl rfl rfl ?_
  refine bnd_elim h fun x2 hx2 h => ?_
  refine awl_callP hτ false [] rfl rfl rfl (enterOk func115 rfl rfl) rfl rfl (by simp) ⟨trivial, trivial, trivial⟩ (by repeat' first | exact trivial | refine ⟨?_, ?_⟩) (strconv_FormatInt_ok n n_ (10 : Int) hx2) ?_
  rintro r0 o0 n0 ⟨rfl, rfl, rfl⟩ -
  refine awl_val hτ rfl rfl rfl ?_
  refine awl_nil ?_
  refine aw_weak (weak_ofP [] (l := [(2, .d (.str (bstr x2)))]) (objs := []) rfl (by simp) rfl (by repeat' first | exact trivial | refine ⟨?_, ?_⟩) ⟨rfl, trivial, trivial⟩) ?_
  refine aw_ret ?_
  have hr := Option.some.inj h
  subst hr
  exact ret_objs (.inr rfl) [] (objs' := []) (new := []) rfl (by simp) (by simp) rfl (by repeat' first | exact trivial | refine ⟨?_, ?_⟩) rfl rfl (by repeat' first | exact trivial | refine ⟨?_, ?_⟩) (fun _ => ⟨by simp [V.flat, V.flatA, V.flatC, D.flat], flat_nil⟩) ⟨rfl, rfl, rfl⟩
theorem impl_Decimal_ok (n : Nat) (n_ : Int) {r : Str} (h : m_impl_Decimal n n_ = some r) : ACall prog false 84 [.d (.int .i64 n_)] [] (fun v o new => v = .d (.str (bstr r)) ∧ o = [] ∧ new = []) := impl_Decimal_ok_fr0 false n n_ h
theorem impl_Decimal_ok_fr (n : Nat) (n_ : Int) {r : Str} (h : m_impl_Decimal n n_ = some r) : ACall prog true 84 [.d (.int .i64 n_)] [] (fun v o new => v = .d (.str (bstr r)) ∧ o = [] ∧ new = []) := impl_Decimal_ok_fr0 true n n_ h

def m_impl_JournalOf (n : Nat) (l : List Str) : Option (Str × Bool) := jrnM (fun s => m_strings_Contains n s [10]) (m_impl_CheckOf n) (m_impl_Decimal n) l 0 []
theorem impl_JournalOf_ok (n : Nat) (l : List Str) {r : Str × Bool} (h : m_impl_JournalOf n l = some r) : ACall prog false 41 [.d (.sl false (l.map eStr))] [] (fun v o new => v = .tup [.d (.str (bstr r.1)), .d (.bool r.2)] ∧ o = [] ∧ new = []) := jrn_does (fun s r h => strings_Contains_ok n s [10] h) (fun c s r h => impl_CheckOf_ok n c s h) (fun c r h => impl_Decimal_ok n c h) (fun _ => rfl) h
theorem impl_JournalOf_ok_fr (n : Nat) (l : List Str) {r : Str × Bool} (h : m_impl_JournalOf n l = some r) : ACall prog true 41 [.d (.sl false (l.map eStr))] [] (fun v o new => v = .tup [.d (.str (bstr r.1)), .d (.bool r.2)] ∧ o = [] ∧ new = []) := jrn_does (fun s r h => strings_Contains_ok n s [10] h) (fun c s r h => impl_CheckOf_ok n c s h) (fun c r h => impl_Decimal_ok n c h) (fun _ => rfl) h

def m_laws_b10At (n : Nat) (code_ : List Int) (i_ : Int) (n_ : Int) : Option Int :=
  if n_ ≤ (1 : Int) then
    some (0 : Int)
  else
    if i_ < (code_.length : Int) then
      (getI code_ i_).bind fun x8 =>
      grd (n_ ≠ 0) <|
      some ((w64 (x8)).tmod n_)
    else
      grd (n_ ≠ 0) <|
      some ((w64 ((w64 (i_ * (37 : Int))) + (11 : Int))).tmod n_)
theorem laws_b10At_ok_fr0 (fr : Bool) (n : Nat) (code_ : List Int) (i_ : Int) (n_ : Int) {r : Int} (h : m_laws_b10At n code_ i_ n_ = some r) : ACall prog fr 17 [.d (.sl false (code_.map eIntu8)), .d (.int .i64 i_), .d (.int .i64 n_)] [] (fun v o new => v = .d (.int .i64 r) ∧ o = [] ∧ new = []) := by
  refine acall_of_aw hτ func17 rfl (by simp) (by simp) ?_
  unfold m_laws_b10At at h
  refine aw_seq ?_
  refine aw_region ?_
  refine awl_val hτ rfl rfl rfl ?_
  refine awl_nil ?_
  refine aw_seq ?_
  refine aw_seq ?_
  refine aw_region ?_
  refine awl_val hτ rfl rfl rfl ?_
  refine awl_val hτ rfl rfl rfl ?_
  refine awl_nil ?_
  refine aw_cond rfl (fun hc4 => ?_) (fun hc4 => ?_)
  · have h := if_t h hc4
    refine aw_seq ?_
    refine aw_region ?_
    refine awl_val hτ rfl rfl rfl ?_
    refine awl_nil ?_
    refine aw_weak (weak_ofP [] (l := [(6, .d (.int .i64 (0 : Int)))]) (objs := []) rfl (by simp) rfl (by repeat' first | exact trivial | refine ⟨?_, ?_⟩) ⟨rfl, trivial, trivial⟩) ?_
    refine aw_ret ?_
    have hr := Option.some.inj h
    subst hr
    exact ret_objs (.inr rfl) [] (objs' := []) (new := []) rfl (by simp) (by simp) rfl (by repeat' first | exact trivial | refine ⟨?_, ?_⟩) rfl rfl (by repeat' first | exact trivial | refine ⟨?_, ?_⟩) (fun _ => ⟨by simp [V.flat, V.flatA, V.flatC, D.flat], flat_nil⟩) ⟨rfl, rfl, rfl⟩
  · have h := if_f h hc4
    refine aw_skip ?_
    refine aw_seq ?_
    refine aw_seq ?_
    refine aw_region ?_
    refine awl_val hτ rfl rfl rfl ?_
    refine awl_val hτ rfl rfl rfl ?_
    refine awl_val hτ (v := .d (.int .i64 (code_.length : Int))) rfl rfl (Eq.trans rfl (or_len (f := eIntu8) code_)) ?_
    refine awl_val hτ rfl rfl rfl ?_
    refine awl_nil ?_
    refine aw_weak (weak_ofP [] (l := [(0, .d (.sl false (code_.map eIntu8))), (1, .d (.int .i64 i_)), (2, .d (.int .i64 n_)), (12, .d (.bool (decide (i_ < (code_.length : Int)))))]) (objs := []) rfl (by simp) rfl (by repeat' first | exact trivial | refine ⟨?_, ?_⟩) ⟨rfl, trivial, rfl, trivial, rfl, trivial, rfl, trivial, trivial⟩) ?_
    refine aw_cond rfl (fun hc7 => ?_) (fun hc7 => ?_)
    · have h := if_t h hc7
      refine aw_seq ?_
      refine aw_region ?_
      refine awl_val hτ rfl rfl rfl ?_
      refine awl_val hτ rfl rfl rfl ?_
      refine bnd_elim h fun x8 hx8 h => ?_
      refine awl_elem hτ rfl rfl rfl (getI_some hx8).1 (map_getI hx8) rfl ?_
      refine awl_val hτ rfl rfl rfl ?_
      refine awl_val hτ rfl rfl rfl ?_
      refine awl_val hτ rfl rfl rfl ?_
      refine grd_elim h fun hg9 h => ?_
      refine awl_need hτ rfl rfl rfl hg9 ?_
      refine awl_val hτ rfl rfl rfl ?_
      refine awl_nil ?_
      refine aw_weak (weak_ofP [] (l := [(6, .d (.int .i64 ((w64 (x8)).tmod n_)))]) (objs := []) rfl (by simp) rfl (by repeat' first | exact trivial | refine ⟨?_, ?_⟩) ⟨rfl, trivial, trivial⟩) ?_
      refine aw_ret ?_
      have hr := Option.some.inj h
      subst hr
      exact ret_objs (.inr rfl) [] (objs' := []) (new := []) rfl (by simp) (by simp) rfl (by repeat' first | exact trivial | refine ⟨?_, ?_⟩) rfl rfl (by repeat' first | exact trivial | refine ⟨?_, ?_⟩) (fun _ => ⟨by simp [V.flat, V.flatA, V.flatC, D.flat], flat_nil⟩) ⟨rfl, rfl, rfl⟩
    · have h := if_f h hc7
      refine aw_skip ?_
      refine aw_seq ?_
      refine aw_region ?_
      refine awl_val hτ rfl rfl rfl ?_
      refine awl_val hτ rfl rfl rfl ?_
      refine awl_val hτ rfl rfl rfl ?_
      refine awl_val hτ rfl rfl rfl ?_
      refine grd_elim h fun hg10 h => ?_
      refine awl_need hτ rfl rfl rfl hg10 ?_
      refine awl_val hτ rfl rfl rfl ?_
      refine awl_nil ?_
      refine aw_weak (weak_ofP [] (l := [(6, .d (.int .i64 ((w64 ((w64 (i_ * (37 : Int))) + (11 : Int))).tmod n_)))]) (objs := []) rfl (by simp) rfl (by repeat' first | exact trivial | refine ⟨?_, ?_⟩) ⟨rfl, trivial, trivial⟩) ?_
      refine aw_ret ?_
      have hr := Option.some.inj h
      subst hr
      exact ret_objs (.inr rfl) [] (objs' := []) (new := []) rfl (by simp) (by simp) rfl (by repeat' first | exact trivial | refine ⟨?_, ?_⟩) rfl rfl (by repeat' first | exact trivial | refine ⟨?_, ?_⟩) (fun _ => ⟨by simp [V.flat, V.flatA, V.flatC, D.flat], flat_nil⟩) ⟨rfl, rfl, rfl⟩
theorem laws_b10At_ok (n : Nat) (code_ : List Int) (i_ : Int) (n_ : Int) {r : Int} (h : m_laws_b10At n code_ i_ n_ = some r) : ACall prog false 17 [.d (.sl false (code_.map eIntu8)), .d (.int .i64 i_), .d (.int .i64 n_)] [] (fun v o new => v = .d (.int .i64 r) ∧ o = [] ∧ new = []) := laws_b10At_ok_fr0 false n code_ i_ n_ h
theorem laws_b10At_ok_fr (n : Nat) (code_ : List Int) (i_ : Int) (n_ : Int) {r : Int} (h : m_laws_b10At n code_ i_ n_ = some r) : ACall prog true 17 [.d (.sl false (code_.map eIntu8)), .d (.int .i64 i_), .d (.int .i64 n_)] [] (fun v o new => v = .d (.int .i64 r) ∧ o = [] ∧ new = []) := laws_b10At_ok_fr0 true n code_ i_ n_ h

def m_strings_IndexByte (n : Nat) (s_ : Str) (c_ : Int) : Option Int :=
  (m_stringslite_IndexByte n s_ c_).bind fun x2 =>
  some x2
theorem strings_IndexByte_ok_fr0 (fr : Bool) (n : Nat) (s_ : Str) (c_ : Int) {r : Int} (h : m_strings_IndexByte n s_ c_ = some r) : ACall prog fr 86 [.d (.str (bstr s_)), .d (.int .u8 c_)] [] (fun v o new => v = .d (.int .i64 r) ∧ o = [] ∧ new = []) := by
  refine acall_of_aw hτ func86 rfl (by simp) (by simp) ?_
  unfold m_strings_IndexByte at h
  refine aw_seq ?_
  refine aw_region ?_
  refine awl_val hτ rfl rfl rfl ?_
  refine awl_nil ?_
  refine aw_seq ?_
  refine aw_region ?_
  refine awl_val hτ rfl rfl rfl ?_
  refine awl_val hτ rfl rfl rfl ?_
  refine bnd_elim h fun x2 hx2 h => ?_
  refine awl_callP hτ false [] rfl rfl rfl (enterOk func116 rfl rfl) rfl rfl (by simp) ⟨trivial, trivial, trivial⟩ (by repeat' first | exact trivial | refine ⟨?_, ?_⟩) (stringslite_IndexByte_ok n s_ c_ hx2) ?_
  rintro r0 o0 n0 ⟨rfl, rfl, rfl⟩ -
  refine awl_val hτ rfl rfl rfl ?_
  refine awl_nil ?_
  refine aw_weak (weak_ofP [] (l := [(4, .d (.int .i64 x2))]) (objs := []) rfl (by simp) rfl (by repeat' first | exact trivial | refine ⟨?_, ?_⟩) ⟨rfl, trivial, trivial⟩) ?_
  refine aw_ret ?_
  have hr := Option.some.inj h
  subst hr
  exact ret_objs (.inr rfl) [] (objs' := []) (new := []) rfl (by simp) (by simp) rfl (by repeat' first | exact trivial | refine ⟨?_, ?_⟩) rfl rfl (by repeat' first | exact trivial | refine ⟨?_, ?_⟩) (fun _ => ⟨by simp [V.flat, V.flatA, V.flatC, D.flat], flat_nil⟩) ⟨rfl, rfl, rfl⟩
theorem strings_IndexByte_ok (n : Nat) (s_ : Str) (c_ : Int) {r : Int} (h : m_strings_IndexByte n s_ c_ = some r) : ACall prog false 86 [.d (.str (bstr s_)), .d (.int .u8 c_)] [] (fun v o new => v = .d (.int .i64 r) ∧ o = [] ∧ new = []) := strings_IndexByte_ok_fr0 false n s_ c_ h
theorem strings_IndexByte_ok_fr (n : Nat) (s_ : Str) (c_ : Int) {r : Int} (h : m_strings_IndexByte n s_ c_ = some r) : ACall prog true 86 [.d (.str (bstr s_)), .d (.int .u8 c_)] [] (fun v o new => v = .d (.int .i64 r) ∧ o = [] ∧ new = []) := strings_IndexByte_ok_fr0 true n s_ c_ h

def m_stringslite_Cut (n : Nat) (s_ : Str) (sep_ : Str) : Option (Str × Str × Bool) :=
  (m_stringslite_Index n s_ sep_).bind fun x4 =>
  if x4 ≥ (0 : Int) then
    grd (0 ≤ (0 : Int) ∧ (0 : Int) ≤ x4 ∧ x4 ≤ (s_.length : Int)) <|
    grd (0 ≤ (w64 (x4 + (sep_.length : Int))) ∧ (w64 (x4 + (sep_.length : Int))) ≤ (s_.length : Int) ∧ (s_.length : Int) ≤ (s_.length : Int)) <|
    some ((sub s_ (0 : Int) x4), (sub s_ (w64 (x4 + (sep_.length : Int))) (s_.length : Int)), true)
  else
    some (s_, ([] : Str), false)
theorem stringslite_Cut_ok_fr0 (fr : Bool) (n : Nat) (s_ : Str) (sep_ : Str) {r : Str × Str × Bool} (h : m_stringslite_Cut n s_ sep_ = some r) : ACall prog fr 117 [.d (.str (bstr s_)), .d (.str (bstr sep_))] [] (fun v o new => v = .tup [.d (.str (bstr r.1)), .d (.str (bstr r.2.1)), .d (.bool r.2.2)] ∧ o = [] ∧ new = []) := by
  refine acall_of_aw hτ func117 rfl (by simp) (by simp) ?_
  unfold m_stringslite_Cut at h
  refine aw_seq ?_
  refine aw_region ?_
  refine awl_val hτ rfl rfl rfl ?_
  refine awl_val hτ rfl rfl rfl ?_
  refine awl_val hτ rfl rfl rfl ?_
  refine awl_nil ?_
  refine aw_seq ?_
  refine aw_seq ?_
  refine aw_region ?_
  refine awl_val hτ rfl rfl rfl ?_
  refine awl_val hτ rfl rfl rfl ?_
  refine bnd_elim h fun x4 hx4 h => ?_
  refine awl_callP hτ false [] rfl rfl rfl (enterOk func129 rfl rfl) rfl rfl (by simp) ⟨trivial, trivial, trivial⟩ (by repeat' first | exact trivial | refine ⟨?_, ?_⟩) (stringslite_Index_ok n s_ sep_ hx4) ?_
  rintro r0 o0 n0 ⟨rfl, rfl, rfl⟩ -
  refine awl_val hτ rfl rfl rfl ?_
  refine awl_nil ?_
  refine aw_seq ?_
  refine aw_weak (weak_ofP [] (l := [(0, .d (.str (bstr s_))), (1, .d (.str (bstr sep_))), (7, .d (.int .i64 x4))]) (objs := []) rfl (by simp) rfl (by repeat' first | exact trivial | refine ⟨?_, ?_⟩) ⟨rfl, trivial, rfl, trivial, rfl, trivial, trivial⟩) ?_
  refine aw_region ?_
  refine awl_val hτ rfl rfl rfl ?_
  refine awl_val hτ rfl rfl rfl ?_
  refine awl_nil ?_
  refine aw_cond rfl (fun hc5 => ?_) (fun hc5 => ?_)
  · have h := if_t h hc5
    refine aw_seq ?_
    refine any_start ?_
    refine any_val hτ [] 0 rfl rfl rfl rfl rfl ?_
    refine any_val hτ [] 1 rfl rfl rfl rfl rfl ?_
    refine grd_elim h fun hg6 h => ?_
    refine any_need hτ (v := .d (.str (bstr (sub s_ (0 : Int) x4)))) [] 2 rfl rfl rfl rfl (Eq.trans rfl (or_ssub _ _ _)) hg6 ?_
    refine any_val hτ [] 3 rfl rfl rfl rfl rfl ?_
    refine any_val hτ [] 4 rfl rfl rfl rfl rfl ?_
    refine any_val hτ [] 5 rfl rfl rfl rfl rfl ?_
    refine any_val hτ [] 6 rfl rfl rfl rfl rfl ?_
    refine any_val hτ [] 7 rfl rfl rfl rfl rfl ?_
    refine grd_elim h fun hg7 h => ?_
    refine any_need hτ (v := .d (.str (bstr (sub s_ (w64 (x4 + (sep_.length : Int))) (s_.length : Int))))) [] 8 rfl rfl rfl rfl (Eq.trans rfl (or_ssub _ _ _)) hg7 ?_
    refine any_val hτ [] 9 rfl rfl rfl rfl rfl ?_
    refine any_val hτ [] 10 rfl rfl rfl rfl rfl ?_
    refine any_val hτ [] 11 rfl rfl rfl rfl rfl ?_
    refine any_done mixed (by kernel_rfl) ?_
    refine aw_weak (weak_ofP [] (l := [(4, .d (.str (bstr (sub s_ (0 : Int) x4)))), (5, .d (.str (bstr (sub s_ (w64 (x4 + (sep_.length : Int))) (s_.length : Int))))), (6, .d (.bool true))]) (objs := []) rfl (by simp) rfl (by repeat' first | exact trivial | refine ⟨?_, ?_⟩) ⟨rfl, trivial, rfl, trivial, rfl, trivial, trivial⟩) ?_
    refine aw_ret ?_
    have hr := Option.some.inj h
    subst hr
    exact ret_objs (.inr rfl) [] (objs' := []) (new := []) rfl (by simp) (by simp) rfl (by repeat' first | exact trivial | refine ⟨?_, ?_⟩) rfl rfl (by repeat' first | exact trivial | refine ⟨?_, ?_⟩) (fun _ => ⟨by simp [V.flat, V.flatA, V.flatC, D.flat], flat_nil⟩) ⟨rfl, rfl, rfl⟩
  · have h := if_f h hc5
    refine aw_skip ?_
    refine aw_seq ?_
    refine aw_region ?_
    refine awl_val hτ rfl rfl rfl ?_
    refine awl_val hτ rfl rfl rfl ?_
    refine awl_val hτ rfl rfl rfl ?_
    refine awl_val hτ rfl rfl rfl ?_
    refine awl_nil ?_
    refine aw_weak (weak_ofP [] (l := [(4, .d (.str (bstr s_))), (5, .d (.str (bstr ([] : Str)))), (6, .d (.bool false))]) (objs := []) rfl (by simp) rfl (by repeat' first | exact trivial | refine ⟨?_, ?_⟩) ⟨rfl, trivial, rfl, trivial, rfl, trivial, trivial⟩) ?_
    refine aw_ret ?_
    have hr := Option.some.inj h
    subst hr
    exact ret_objs (.inr rfl) [] (objs' := []) (new := []) rfl (by simp) (by simp) rfl (by repeat' first | exact trivial | refine ⟨?_, ?_⟩) rfl rfl (by repeat' first | exact trivial | refine ⟨?_, ?_⟩) (fun _ => ⟨by simp [V.flat, V.flatA, V.flatC, D.flat], flat_nil⟩) ⟨rfl, rfl, rfl⟩
theorem stringslite_Cut_ok (n : Nat) (s_ : Str) (sep_ : Str) {r : Str × Str × Bool} (h : m_stringslite_Cut n s_ sep_ = some r) : ACall prog false 117 [.d (.str (bstr s_)), .d (.str (bstr sep_))] [] (fun v o new => v = .tup [.d (.str (bstr r.1)), .d (.str (bstr r.2.1)), .d (.bool r.2.2)] ∧ o = [] ∧ new = []) := stringslite_Cut_ok_fr0 false n s_ sep_ h
theorem stringslite_Cut_ok_fr (n : Nat) (s_ : Str) (sep_ : Str) {r : Str × Str × Bool} (h : m_stringslite_Cut n s_ sep_ = some r) : ACall prog true 117 [.d (.str (bstr s_)), .d (.str (bstr sep_))] [] (fun v o new => v = .tup [.d (.str (bstr r.1)), .d (.str (bstr r.2.1)), .d (.bool r.2.2)] ∧ o = [] ∧ new = []) := stringslite_Cut_ok_fr0 true n s_ sep_ h

def m_strings_Cut (n : Nat) (s_ : Str) (sep_ : Str) : Option (Str × Str × Bool) :=
  (m_stringslite_Cut n s_ sep_).bind fun x2 =>
  some (x2.1, x2.2.1, x2.2.2)
theorem strings_Cut_ok_fr0 (fr : Bool) (n : Nat) (s_ : Str) (sep_ : Str) {r : Str × Str × Bool} (h : m_strings_Cut n s_ sep_ = some r) : ACall prog fr 87 [.d (.str (bstr s_)), .d (.str (bstr sep_))] [] (fun v o new => v = .tup [.d (.str (bstr r.1)), .d (.str (bstr r.2.1)), .d (.bool r.2.2)] ∧ o = [] ∧ new = []) := by
  refine acall_of_aw hτ func87 rfl (by simp) (by simp) ?_
  unfold m_strings_Cut at h
  refine aw_seq ?_
  refine aw_region ?_
  refine awl_val hτ rfl rfl rfl ?_
  refine awl_val hτ rfl rfl rfl ?_
  refine awl_val hτ rfl rfl rfl ?_
  refine awl_nil ?_
  refine aw_seq ?_
  refine aw_region ?_
  refine awl_val hτ rfl rfl rfl ?_
  refine awl_val hτ rfl rfl rfl ?_
  refine bnd_elim h fun x2 hx2 h => ?_
  refine awl_callP hτ false [] rfl rfl rfl (enterOk func117 rfl rfl) rfl rfl (by simp) ⟨trivial, trivial, trivial⟩ (by repeat' first | exact trivial | refine ⟨?_, ?_⟩) (stringslite_Cut_ok n s_ sep_ hx2) ?_
  rintro r0 o0 n0 ⟨rfl, rfl, rfl⟩ -
  refine awl_val hτ rfl rfl rfl ?_
  refine awl_val hτ rfl rfl rfl ?_
  refine awl_val hτ rfl rfl rfl ?_
  refine awl_val hτ rfl rfl rfl ?_
  refine awl_val hτ rfl rfl rfl ?_
  refine awl_val hτ rfl rfl rfl ?_
  refine awl_nil ?_
  refine aw_weak (weak_ofP [] (l := [(4, .d (.str (bstr x2.1))), (5, .d (.str (bstr x2.2.1))), (6, .d (.bool x2.2.2))]) (objs := []) rfl (by simp) rfl (by repeat' first | exact trivial | refine ⟨?_, ?_⟩) ⟨rfl, trivial, rfl, trivial, rfl, trivial, trivial⟩) ?_
  refine aw_ret ?_
  have hr := Option.some.inj h
  subst hr
  exact ret_objs (.inr rfl) [] (objs' := []) (new := []) rfl (by simp) (by simp) rfl (by repeat' first | exact trivial | refine ⟨?_, ?_⟩) rfl rfl (by repeat' first | exact trivial | refine ⟨?_, ?_⟩) (fun _ => ⟨by simp [V.flat, V.flatA, V.flatC, D.flat], flat_nil⟩) ⟨rfl, rfl, rfl⟩
theorem strings_Cut_ok (n : Nat) (s_ : Str) (sep_ : Str) {r : Str × Str × Bool} (h : m_strings_Cut n s_ sep_ = some r) : ACall prog false 87 [.d (.str (bstr s_)), .d (.str (bstr sep_))] [] (fun v o new => v = .tup [.d (.str (bstr r.1)), .d (.str (bstr r.2.1)), .d (.bool r.2.2)] ∧ o = [] ∧ new = []) := strings_Cut_ok_fr0 false n s_ sep_ h
theorem strings_Cut_ok_fr (n : Nat) (s_ : Str) (sep_ : Str) {r : Str × Str × Bool} (h : m_strings_Cut n s_ sep_ = some r) : ACall prog true 87 [.d (.str (bstr s_)), .d (.str (bstr sep_))] [] (fun v o new => v = .tup [.d (.str (bstr r.1)), .d (.str (bstr r.2.1)), .d (.bool r.2.2)] ∧ o = [] ∧ new = []) := strings_Cut_ok_fr0 true n s_ sep_ h

def m_impl_RecoverJournal_j2 (n : Nat) (k63 : List Str → Int → Int → Option (List Str × Int × Bool)) (v44 : List Str) (v45 : Int) (x65 : Int) (x68 : Str × Str × Bool) (x69 : Int × Bool) : Option (List Str × Int × Bool) :=
  grd (room (v44.length + 1) 16) <|
  k63 (v44 ++ [x68.2.1]) (w64 ((w64 (v45 + x65)) + (1 : Int))) x69.1
def m_impl_RecoverJournal_j3 (n : Nat) (k63 : List Str → Int → Int → Option (List Str × Int × Bool)) (v44 : List Str) (v45 : Int) (x65 : Int) (x68 : Str × Str × Bool) (x69 : Int × Bool) (v84 : Bool) : Option (List Str × Int × Bool) :=
  if v84 = true then
    some (v44, v45, true)
  else
    m_impl_RecoverJournal_j2 n k63 v44 v45 x65 x68 x69
def m_impl_RecoverJournal_l1 (n : Nat) (t_ : Str) : Nat → List Str → Int → Int → Option (List Str × Int × Bool)
  | 0, _, _, _ => none
  | m62 + 1, v44, v45, v46 =>
    grd (0 ≤ v45 ∧ v45 ≤ (t_.length : Int) ∧ (t_.length : Int) ≤ (t_.length : Int)) <|
    (m_strings_IndexByte n (sub t_ v45 (t_.length : Int)) (10 : Int)).bind fun x65 =>
    if x65 < (0 : Int) then
      some (v44, v45, true)
    else
      grd (0 ≤ v45 ∧ v45 ≤ (w64 (v45 + x65)) ∧ (w64 (v45 + x65)) ≤ (t_.length : Int)) <|
      (m_strings_Cut n (sub t_ v45 (w64 (v45 + x65))) ([32] : Str)).bind fun x68 =>
      (m_impl_CheckOf n v46 x68.2.1).bind fun x69 =>
      if x68.2.2 = true then
        grd (0 ≤ v45 ∧ v45 ≤ (w64 (v45 + x65)) ∧ (w64 (v45 + x65)) ≤ (t_.length : Int)) <|
        (m_impl_Decimal n x69.1).bind fun x89 =>
        grd (x89.length + ([32] : Str).length ≤ 9223372036854775807) <|
        grd ((x89 ++ ([32] : Str)).length + x68.2.1.length ≤ 9223372036854775807) <|
        m_impl_RecoverJournal_j3 n (m_impl_RecoverJournal_l1 n t_ m62) v44 v45 x65 x68 x69 (!(decide (((x89 ++ ([32] : Str)) ++ x68.2.1) = (sub t_ v45 (w64 (v45 + x65))))))
      else
        m_impl_RecoverJournal_j3 n (m_impl_RecoverJournal_l1 n t_ m62) v44 v45 x65 x68 x69 true
def m_impl_RecoverJournal (n : Nat) (t_ : Str) : Option (List Str × Int × Bool) :=
  if (t_.length : Int) > (6000 : Int) then
    some (([] : List Str), (0 : Int), false)
  else
    m_impl_RecoverJournal_l1 n t_ n ([] : List Str) (0 : Int) (0 : Int)
theorem impl_RecoverJournal_ok_fr0 (fr : Bool) (n : Nat) (t_ : Str) {r : List Str × Int × Bool} (h : m_impl_RecoverJournal n t_ = some r) : ACall prog fr 42 [.d (.str (bstr t_))] [] (fun v o new => v = .tup [.row 0 r.1.length 0 r.1.length, .d (.int .i64 r.2.1), .d (.bool r.2.2)] ∧ o = [] ∧ new = [.row 1 (r.1.map eStr)]) := by
  refine acall_of_aw hτ func42 rfl (by simp) (by simp) ?_
  unfold m_impl_RecoverJournal at h
  refine aw_seq ?_
  refine aw_region ?_
  refine awl_val hτ rfl rfl rfl ?_
  refine awl_val hτ rfl rfl rfl ?_
  refine awl_val hτ rfl rfl rfl ?_
  refine awl_nil ?_
  refine aw_seq ?_
  refine aw_seq ?_
  refine aw_region ?_
  refine awl_val hτ rfl rfl rfl ?_
  refine awl_val hτ rfl rfl rfl ?_
  refine awl_val hτ rfl rfl rfl ?_
  refine awl_nil ?_
  refine aw_weak (weak_ofP [] (l := [(0, .d (.str (bstr t_))), (16, .d (.bool (decide ((t_.length : Int) > (6000 : Int)))))]) (objs := []) rfl (by simp) rfl (by repeat' first | exact trivial | refine ⟨?_, ?_⟩) ⟨rfl, trivial, rfl, trivial, trivial⟩) ?_
  refine aw_cond rfl (fun hc31 => ?_) (fun hc31 => ?_)
  · have h := if_t h hc31
    refine aw_seq ?_
    refine aw_region ?_
    refine awl_val hτ rfl rfl rfl ?_
    refine awl_val hτ rfl rfl rfl ?_
    refine awl_val hτ rfl rfl rfl ?_
    refine awl_nil ?_
    refine aw_weak (weak_ofP [] (l := [(2, .d (.nils)), (3, .d (.int .i64 (0 : Int))), (4, .d (.bool false))]) (objs := []) rfl (by simp) rfl (by repeat' first | exact trivial | refine ⟨?_, ?_⟩) ⟨rfl, trivial, rfl, trivial, rfl, trivial, trivial⟩) ?_
    refine aw_weak (weak_relax [1] (l' := [(2, .row 0 (([] : List Str).length) 0 (([] : List Str).length)), (3, .d (.int .i64 (0 : Int))), (4, .d (.bool false))]) (objs' := []) (.cons (.c (.ghost ⟨Nat.le_of_ble_eq_true rfl, Nat.le_of_ble_eq_true rfl⟩)) (.cons (.c (.refl _)) (.cons (.c (.refl _)) .nil))) .nil) ?_
    refine aw_ret ?_
    have hr := Option.some.inj h
    subst hr
    exact ret_objs (.inr rfl) [0] (objs' := []) (new := [.row 1 (([] : List Str).map eStr)]) rfl (by simp) (by simp) rfl (by repeat' first | exact trivial | refine ⟨?_, ?_⟩) rfl rfl (by repeat' first | exact trivial | refine ⟨?_, ?_⟩) (fun _ => ⟨by simp [V.flat, V.flatA, V.flatC, D.flat], (flat_cons (flat_row eStr_flat _) flat_nil)⟩) ⟨rfl, rfl, rfl⟩
  · have h := if_f h hc31
    refine aw_skip ?_
    refine aw_seq ?_
    refine aw_region ?_
    refine awl_valH hτ rfl rfl rfl ?_
    refine awl_val hτ rfl rfl rfl ?_
    refine awl_val hτ rfl rfl rfl ?_
    refine awl_val hτ rfl rfl rfl ?_
    refine awl_nil ?_
    refine aw_seq ?_
    refine aw_block ?_
    refine aw_loop (ι := Nat × List Str × Int × Int) (fun (m62, v44, v45, v46) => St.of [(0, .d (.str (bstr t_))), (5, .row 0 v44.length 0 v44.length), (6, .d (.int .i64 v45)), (7, .d (.int .i64 v46))] [.row 1 (v44.map eStr)] f42.ntmps 0) (fun (m62, v44, v45, v46) => m_impl_RecoverJournal_l1 n t_ m62 v44 v45 v46 = some r) (fun x => x.1) (n, ([] : List Str), (0 : Int), (0 : Int)) h (weak_ofP [0] (l := [(0, .d (.str (bstr t_))), (5, .row 0 (([] : List Str).length) 0 (([] : List Str).length)), (6, .d (.int .i64 (0 : Int))), (7, .d (.int .i64 (0 : Int)))]) (objs := [.row 1 (([] : List Str).map eStr)]) rfl (by simp) rfl (by repeat' first | exact trivial | refine ⟨?_, ?_⟩) ⟨rfl, trivial, rfl, trivial, rfl, trivial, rfl, trivial, trivial⟩) ?_
    rintro ⟨m62, v44, v45, v46⟩ h
    replace h : m_impl_RecoverJournal_l1 n t_ m62 v44 v45 v46 = some r := h
    rcases m62 with _ | m62
    · rw [m_impl_RecoverJournal_l1] at h; cases h
    rw [m_impl_RecoverJournal_l1] at h
    refine aw_block ?_
    refine aw_seq ?_
    refine aw_region ?_
    refine awl_val hτ rfl rfl rfl ?_
    refine awl_val hτ rfl rfl rfl ?_
    refine grd_elim h fun hg64 h => ?_
    refine awl_need hτ (v := .d (.str (bstr (sub t_ v45 (t_.length : Int))))) rfl rfl (Eq.trans rfl (or_ssub _ _ _)) hg64 ?_
    refine bnd_elim h fun x65 hx65 h => ?_
    refine awl_callP hτ false [] rfl rfl rfl (enterOk func86 rfl rfl) rfl rfl (by simp) ⟨trivial, trivial, trivial⟩ (by repeat' first | exact trivial | refine ⟨?_, ?_⟩) (strings_IndexByte_ok n (sub t_ v45 (t_.length : Int)) (10 : Int) hx65) ?_
    rintro r0 o0 n0 ⟨rfl, rfl, rfl⟩ -
    refine awl_val hτ rfl rfl rfl ?_
    refine awl_nil ?_
    refine aw_seq ?_
    refine aw_seq ?_
    refine aw_region ?_
    refine awl_val hτ rfl rfl rfl ?_
    refine awl_val hτ rfl rfl rfl ?_
    refine awl_nil ?_
    refine aw_weak (weak_ofP [0] (l := [(0, .d (.str (bstr t_))), (5, .row 0 v44.length 0 v44.length), (6, .d (.int .i64 v45)), (7, .d (.int .i64 v46)), (8, .d (.int .i64 x65)), (23, .d (.bool (decide (x65 < (0 : Int)))))]) (objs := [.row 1 (v44.map eStr)]) rfl (by simp) rfl (by repeat' first | exact trivial | refine ⟨?_, ?_⟩) ⟨rfl, trivial, rfl, trivial, rfl, trivial, rfl, trivial, rfl, trivial, rfl, trivial, trivial⟩) ?_
    refine aw_cond rfl (fun hc66 => ?_) (fun hc66 => ?_)
    · have h := if_t h hc66
      refine aw_exit ?_
      refine aw_seq ?_
      refine aw_region ?_
      refine awl_val hτ rfl rfl rfl ?_
      refine awl_val hτ rfl rfl rfl ?_
      refine awl_val hτ rfl rfl rfl ?_
      refine awl_val hτ rfl rfl rfl ?_
      refine awl_val hτ rfl rfl rfl ?_
      refine awl_nil ?_
      refine aw_weak (weak_ofP [0] (l := [(2, .row 0 v44.length 0 v44.length), (3, .d (.int .i64 v45)), (4, .d (.bool true))]) (objs := [.row 1 (v44.map eStr)]) rfl (by simp) rfl (by repeat' first | exact trivial | refine ⟨?_, ?_⟩) ⟨rfl, trivial, rfl, trivial, rfl, trivial, trivial⟩) ?_
      refine aw_ret ?_
      have hr := Option.some.inj h
      subst hr
      exact ret_objs (.inr rfl) [0] (objs' := []) (new := [.row 1 (v44.map eStr)]) rfl (by simp) (by simp) rfl (by repeat' first | exact trivial | refine ⟨?_, ?_⟩) rfl rfl (by repeat' first | exact trivial | refine ⟨?_, ?_⟩) (fun _ => ⟨by simp [V.flat, V.flatA, V.flatC, D.flat], (flat_cons (flat_row eStr_flat _) flat_nil)⟩) ⟨rfl, rfl, rfl⟩
    · have h := if_f h hc66
      refine aw_skip ?_
      refine aw_seq ?_
      refine aw_region ?_
      refine awl_val hτ rfl rfl rfl ?_
      refine awl_val hτ rfl rfl rfl ?_
      refine awl_val hτ rfl rfl rfl ?_
      refine awl_val hτ rfl rfl rfl ?_
      refine awl_val hτ rfl rfl rfl ?_
      refine grd_elim h fun hg67 h => ?_
      refine awl_need hτ (v := .d (.str (bstr (sub t_ v45 (w64 (v45 + x65)))))) rfl rfl (Eq.trans rfl (or_ssub _ _ _)) hg67 ?_
      refine bnd_elim h fun x68 hx68 h => ?_
      refine awl_callP hτ false [] rfl rfl rfl (enterOk func87 rfl rfl) rfl rfl (by simp) ⟨trivial, trivial, trivial⟩ (by repeat' first | exact trivial | refine ⟨?_, ?_⟩) (strings_Cut_ok n (sub t_ v45 (w64 (v45 + x65))) ([32] : Str) hx68) ?_
      rintro r0 o0 n0 ⟨rfl, rfl, rfl⟩ -
      refine awl_val hτ rfl rfl rfl ?_
      refine awl_val hτ rfl rfl rfl ?_
      refine awl_val hτ rfl rfl rfl ?_
      refine awl_val hτ rfl rfl rfl ?_
      refine awl_val hτ rfl rfl rfl ?_
      refine awl_weak (weak_ofP [0] (l := [(0, .d (.str (bstr t_))), (5, .row 0 v44.length 0 v44.length), (6, .d (.int .i64 v45)), (7, .d (.int .i64 v46)), (8, .d (.int .i64 x65)), (33, .d (.str (bstr x68.2.1))), (34, .d (.bool x68.2.2))]) (objs := [.row 1 (v44.map eStr)]) rfl (by simp) rfl (by repeat' first | exact trivial | refine ⟨?_, ?_⟩) ⟨rfl, trivial, rfl, trivial, rfl, trivial, rfl, trivial, rfl, trivial, rfl, trivial, rfl, trivial, trivial⟩) ?_
      refine awl_val hτ rfl rfl rfl ?_
      refine awl_val hτ rfl rfl rfl ?_
      refine awl_nil ?_
      refine aw_seq ?_
      refine aw_region ?_
      refine awl_val hτ rfl rfl rfl ?_
      refine awl_val hτ rfl rfl rfl ?_
      refine bnd_elim h fun x69 hx69 h => ?_
      refine awl_callP hτ false [] rfl rfl rfl (enterOk func82 rfl rfl) rfl rfl (by simp) ⟨trivial, trivial, trivial⟩ (by repeat' first | exact trivial | refine ⟨?_, ?_⟩) (impl_CheckOf_ok n v46 x68.2.1 hx69) ?_
      rintro r0 o0 n0 ⟨rfl, rfl, rfl⟩ -
      refine awl_val hτ rfl rfl rfl ?_
      refine awl_val hτ rfl rfl rfl ?_
      refine awl_val hτ rfl rfl rfl ?_
      refine awl_val hτ rfl rfl rfl ?_
      refine awl_val hτ rfl rfl rfl ?_
      refine awl_nil ?_
      refine aw_hk1 (ι := Unit) (fun _ => St.of [(0, .d (.str (bstr t_))), (5, .row 0 v44.length 0 v44.length), (6, .d (.int .i64 v45)), (8, .d (.int .i64 x65)), (10, .d (.str (bstr x68.2.1))), (12, .d (.int .i64 x69.1))] [.row 1 (v44.map eStr)] f42.ntmps 0) (fun _ => m_impl_RecoverJournal_j2 n (m_impl_RecoverJournal_l1 n t_ m62) v44 v45 x65 x68 x69 = some r) ?_ (fun hk77 => ?_)
      · rintro ⟨⟩ h
        replace h : m_impl_RecoverJournal_j2 n (m_impl_RecoverJournal_l1 n t_ m62) v44 v45 x65 x68 x69 = some r := h
        unfold m_impl_RecoverJournal_j2 at h
        refine aw_region ?_
        refine awl_val hτ rfl rfl rfl ?_
        refine awl_val hτ rfl rfl rfl ?_
        refine awl_valH hτ rfl rfl rfl ?_
        refine grd_elim h fun hg76 h => ?_
        refine awl_needH hτ rfl rfl (Eq.trans rfl (or_append (f := eStr) v44 [x68.2.1] rfl)) ⟨⟨rfl, Nat.le_of_ble_eq_true rfl⟩, len_map _, rfl, rfl, hg76, by decide, (all1 rfl)⟩ ?_
        refine awl_val hτ rfl rfl rfl ?_
        refine awl_val hτ rfl rfl rfl ?_
        refine awl_val hτ rfl rfl rfl ?_
        refine awl_val hτ rfl rfl rfl ?_
        refine awl_val hτ rfl rfl rfl ?_
        refine awl_val hτ rfl rfl rfl ?_
        refine awl_val hτ rfl rfl rfl ?_
        refine awl_val hτ rfl rfl rfl ?_
        refine awl_nil ?_
        exact ⟨(m62, (v44 ++ [x68.2.1]), (w64 ((w64 (v45 + x65)) + (1 : Int))), x69.1), h, Nat.lt_succ_self m62, (weak_ofP [0] (l := [(0, .d (.str (bstr t_))), (5, .row 0 ((v44 ++ [x68.2.1]).length) 0 ((v44 ++ [x68.2.1]).length)), (6, .d (.int .i64 (w64 ((w64 (v45 + x65)) + (1 : Int))))), (7, .d (.int .i64 x69.1))]) (objs := [.row 1 ((v44 ++ [x68.2.1]).map eStr)]) rfl (by simp) rfl (by repeat' first | exact trivial | refine ⟨?_, ?_⟩) ⟨rfl, trivial, rfl, trivial, rfl, trivial, rfl, trivial, trivial⟩)⟩
      · refine aw_seq ?_
        refine aw_hk1 (ι := Bool) (fun v84 => St.of [(0, .d (.str (bstr t_))), (5, .row 0 v44.length 0 v44.length), (6, .d (.int .i64 v45)), (8, .d (.int .i64 x65)), (10, .d (.str (bstr x68.2.1))), (12, .d (.int .i64 x69.1)), (56, .d (.bool v84))] [.row 1 (v44.map eStr)] f42.ntmps 0) (fun v84 => m_impl_RecoverJournal_j3 n (m_impl_RecoverJournal_l1 n t_ m62) v44 v45 x65 x68 x69 v84 = some r) ?_ (fun hk86 => ?_)
        · rintro v84 h
          replace h : m_impl_RecoverJournal_j3 n (m_impl_RecoverJournal_l1 n t_ m62) v44 v45 x65 x68 x69 v84 = some r := h
          unfold m_impl_RecoverJournal_j3 at h
          refine aw_cond rfl (fun hc85 => ?_) (fun hc85 => ?_)
          · have h := if_bt h hc85
            refine aw_exit ?_
            refine aw_seq ?_
            refine aw_region ?_
            refine awl_val hτ rfl rfl rfl ?_
            refine awl_val hτ rfl rfl rfl ?_
            refine awl_val hτ rfl rfl rfl ?_
            refine awl_val hτ rfl rfl rfl ?_
            refine awl_val hτ rfl rfl rfl ?_
            refine awl_nil ?_
            refine aw_weak (weak_ofP [0] (l := [(2, .row 0 v44.length 0 v44.length), (3, .d (.int .i64 v45)), (4, .d (.bool true))]) (objs := [.row 1 (v44.map eStr)]) rfl (by simp) rfl (by repeat' first | exact trivial | refine ⟨?_, ?_⟩) ⟨rfl, trivial, rfl, trivial, rfl, trivial, trivial⟩) ?_
            refine aw_ret ?_
            have hr := Option.some.inj h
            subst hr
            exact ret_objs (.inr rfl) [0] (objs' := []) (new := [.row 1 (v44.map eStr)]) rfl (by simp) (by simp) rfl (by repeat' first | exact trivial | refine ⟨?_, ?_⟩) rfl rfl (by repeat' first | exact trivial | refine ⟨?_, ?_⟩) (fun _ => ⟨by simp [V.flat, V.flatA, V.flatC, D.flat], (flat_cons (flat_row eStr_flat _) flat_nil)⟩) ⟨rfl, rfl, rfl⟩
          · have h := if_bf h hc85
            refine aw_skip ?_
            refine aw_weak (weak_ofP [0] (l := [(0, .d (.str (bstr t_))), (5, .row 0 v44.length 0 v44.length), (6, .d (.int .i64 v45)), (8, .d (.int .i64 x65)), (10, .d (.str (bstr x68.2.1))), (12, .d (.int .i64 x69.1))]) (objs := [.row 1 (v44.map eStr)]) rfl (by simp) rfl (by repeat' first | exact trivial | refine ⟨?_, ?_⟩) ⟨rfl, trivial, rfl, trivial, rfl, trivial, rfl, trivial, rfl, trivial, rfl, trivial, trivial⟩) ?_
            exact hk77 () h
        · refine aw_seq ?_
          refine aw_weak (weak_ofP [0] (l := [(0, .d (.str (bstr t_))), (5, .row 0 v44.length 0 v44.length), (6, .d (.int .i64 v45)), (8, .d (.int .i64 x65)), (10, .d (.str (bstr x68.2.1))), (11, .d (.bool x68.2.2)), (12, .d (.int .i64 x69.1))]) (objs := [.row 1 (v44.map eStr)]) rfl (by simp) rfl (by repeat' first | exact trivial | refine ⟨?_, ?_⟩) ⟨rfl, trivial, rfl, trivial, rfl, trivial, rfl, trivial, rfl, trivial, rfl, trivial, rfl, trivial, trivial⟩) ?_
          refine any_start ?_
          refine any_val hτ [] 0 rfl rfl rfl rfl rfl ?_
          refine any_val hτ [] 1 rfl rfl rfl rfl rfl ?_
          refine any_val hτ [] 2 rfl rfl rfl rfl rfl ?_
          refine any_split 43 rfl (fun hb87 => ?_) (fun hb87 => ?_)
          · have hb87 := not_t hb87
            have h := if_bf h hb87
            refine any_skip 3 rfl rfl rfl ?_
            refine any_skip 6 rfl rfl rfl ?_
            refine any_skip 8 rfl rfl rfl ?_
            refine any_skip 9 rfl rfl rfl ?_
            refine any_skip 10 rfl rfl rfl ?_
            refine any_skip 11 rfl rfl rfl ?_
            refine any_skip 12 rfl rfl rfl ?_
            refine any_skip 13 rfl rfl rfl ?_
            refine any_skip 4 rfl rfl rfl ?_
            refine any_skip 5 rfl rfl rfl ?_
            refine any_skip 7 rfl rfl rfl ?_
            refine any_skip 14 rfl rfl rfl ?_
            refine any_val hτ [] 15 rfl rfl rfl rfl rfl ?_
            refine any_done mixed (by kernel_rfl) ?_
            refine aw_weak (weak_ofP [0] (l := [(0, .d (.str (bstr t_))), (5, .row 0 v44.length 0 v44.length), (6, .d (.int .i64 v45)), (8, .d (.int .i64 x65)), (10, .d (.str (bstr x68.2.1))), (12, .d (.int .i64 x69.1)), (56, .d (.bool true))]) (objs := [.row 1 (v44.map eStr)]) rfl (by simp) rfl (by repeat' first | exact trivial | refine ⟨?_, ?_⟩) ⟨rfl, trivial, rfl, trivial, rfl, trivial, rfl, trivial, rfl, trivial, rfl, trivial, rfl, trivial, trivial⟩) ?_
            exact hk86 true h
          · have hb87 := not_f hb87
            have h := if_bt h hb87
            refine any_val hτ [] 3 rfl rfl rfl rfl rfl ?_
            refine any_val hτ [] 6 rfl rfl rfl rfl rfl ?_
            refine any_val hτ [] 8 rfl rfl rfl rfl rfl ?_
            refine any_val hτ [] 9 rfl rfl rfl rfl rfl ?_
            refine any_val hτ [] 10 rfl rfl rfl rfl rfl ?_
            refine any_val hτ [] 11 rfl rfl rfl rfl rfl ?_
            refine any_val hτ [] 12 rfl rfl rfl rfl rfl ?_
            refine grd_elim h fun hg88 h => ?_
            refine any_need hτ (v := .d (.str (bstr (sub t_ v45 (w64 (v45 + x65)))))) [] 13 rfl rfl rfl rfl (Eq.trans rfl (or_ssub _ _ _)) hg88 ?_
            refine bnd_elim h fun x89 hx89 h => ?_
            refine any_callP hτ false [] [0] 4 rfl rfl rfl rfl (enterOk func84 rfl rfl) rfl rfl (by simp) ⟨trivial, trivial⟩ (by repeat' first | exact trivial | refine ⟨?_, ?_⟩) (impl_Decimal_ok n x69.1 hx89) ⟨rfl, trivial⟩ ?_
            refine grd_elim h fun hg90 h => ?_
            refine any_need hτ (v := .d (.str (bstr (x89 ++ ([32] : Str))))) [] 5 rfl rfl rfl rfl (Eq.trans rfl (or_cat _ _)) hg90 ?_
            refine grd_elim h fun hg91 h => ?_
            refine any_need hτ (v := .d (.str (bstr ((x89 ++ ([32] : Str)) ++ x68.2.1)))) [] 7 rfl rfl rfl rfl (Eq.trans rfl (or_cat _ _)) hg91 ?_
            refine any_val hτ (v := .d (.bool (!(decide (((x89 ++ ([32] : Str)) ++ x68.2.1) = (sub t_ v45 (w64 (v45 + x65)))))))) [] 14 rfl rfl rfl rfl (or_sne _ _) ?_
            refine any_val hτ [] 15 rfl rfl rfl rfl rfl ?_
            refine any_done mixed (by kernel_rfl) ?_
            refine aw_weak (weak_ofP [0] (l := [(0, .d (.str (bstr t_))), (5, .row 0 v44.length 0 v44.length), (6, .d (.int .i64 v45)), (8, .d (.int .i64 x65)), (10, .d (.str (bstr x68.2.1))), (12, .d (.int .i64 x69.1)), (56, .d (.bool (!(decide (((x89 ++ ([32] : Str)) ++ x68.2.1) = (sub t_ v45 (w64 (v45 + x65))))))))]) (objs := [.row 1 (v44.map eStr)]) rfl (by simp) rfl (by repeat' first | exact trivial | refine ⟨?_, ?_⟩) ⟨rfl, trivial, rfl, trivial, rfl, trivial, rfl, trivial, rfl, trivial, rfl, trivial, rfl, trivial, trivial⟩) ?_
            exact hk86 (!(decide (((x89 ++ ([32] : Str)) ++ x68.2.1) = (sub t_ v45 (w64 (v45 + x65)))))) h
theorem impl_RecoverJournal_ok (n : Nat) (t_ : Str) {r : List Str × Int × Bool} (h : m_impl_RecoverJournal n t_ = some r) : ACall prog false 42 [.d (.str (bstr t_))] [] (fun v o new => v = .tup [.row 0 r.1.length 0 r.1.length, .d (.int .i64 r.2.1), .d (.bool r.2.2)] ∧ o = [] ∧ new = [.row 1 (r.1.map eStr)]) := impl_RecoverJournal_ok_fr0 false n t_ h
theorem impl_RecoverJournal_ok_fr (n : Nat) (t_ : Str) {r : List Str × Int × Bool} (h : m_impl_RecoverJournal n t_ = some r) : ACall prog true 42 [.d (.str (bstr t_))] [] (fun v o new => v = .tup [.row 0 r.1.length 0 r.1.length, .d (.int .i64 r.2.1), .d (.bool r.2.2)] ∧ o = [] ∧ new = [.row 1 (r.1.map eStr)]) := impl_RecoverJournal_ok_fr0 true n t_ h

def m_laws_FnJournal_j3 (n : Nat) (more_ : List Int) (x53 : Str × Bool) (x56 : Int) (x57 : Int) (x60 : List Str × Int × Bool) : Option Bool :=
  grd (0 ≤ (0 : Int) ∧ (0 : Int) ≤ ((w64 ((w64 (x56 * (256 : Int))) + x57)).tmod (x53.1.length : Int)) ∧ ((w64 ((w64 (x56 * (256 : Int))) + x57)).tmod (x53.1.length : Int)) ≤ (x53.1.length : Int)) <|
  grd (0 ≤ (w64 (((w64 ((w64 (x56 * (256 : Int))) + x57)).tmod (x53.1.length : Int)) + (1 : Int))) ∧ (w64 (((w64 ((w64 (x56 * (256 : Int))) + x57)).tmod (x53.1.length : Int)) + (1 : Int))) ≤ (x53.1.length : Int) ∧ (x53.1.length : Int) ≤ (x53.1.length : Int)) <|
  (m_laws_b10At n more_ (2 : Int) (256 : Int)).bind fun x86 =>
  grd ((sub x53.1 (0 : Int) ((w64 ((w64 (x56 * (256 : Int))) + x57)).tmod (x53.1.length : Int))).length + (chars [(IntKind.wrap .u8 (x86))]).length ≤ 9223372036854775807) <|
  grd (((sub x53.1 (0 : Int) ((w64 ((w64 (x56 * (256 : Int))) + x57)).tmod (x53.1.length : Int))) ++ (chars [(IntKind.wrap .u8 (x86))])).length + (sub x53.1 (w64 (((w64 ((w64 (x56 * (256 : Int))) + x57)).tmod (x53.1.length : Int)) + (1 : Int))) (x53.1.length : Int)).length ≤ 9223372036854775807) <|
  (m_impl_RecoverJournal n (((sub x53.1 (0 : Int) ((w64 ((w64 (x56 * (256 : Int))) + x57)).tmod (x53.1.length : Int))) ++ (chars [(IntKind.wrap .u8 (x86))])) ++ (sub x53.1 (w64 (((w64 ((w64 (x56 * (256 : Int))) + x57)).tmod (x53.1.length : Int)) + (1 : Int))) (x53.1.length : Int)))).bind fun x89 =>
  (m_impl_JournalOf n x89.1).bind fun x90 =>
  if x89.2.2 = true then
    if x90.2 = true then
      if x89.2.1 ≥ x60.2.1 then
        if x89.2.1 ≤ ((((sub x53.1 (0 : Int) ((w64 ((w64 (x56 * (256 : Int))) + x57)).tmod (x53.1.length : Int))) ++ (chars [(IntKind.wrap .u8 (x86))])) ++ (sub x53.1 (w64 (((w64 ((w64 (x56 * (256 : Int))) + x57)).tmod (x53.1.length : Int)) + (1 : Int))) (x53.1.length : Int))).length : Int) then
          grd (0 ≤ (0 : Int) ∧ (0 : Int) ≤ x89.2.1 ∧ x89.2.1 ≤ ((((sub x53.1 (0 : Int) ((w64 ((w64 (x56 * (256 : Int))) + x57)).tmod (x53.1.length : Int))) ++ (chars [(IntKind.wrap .u8 (x86))])) ++ (sub x53.1 (w64 (((w64 ((w64 (x56 * (256 : Int))) + x57)).tmod (x53.1.length : Int)) + (1 : Int))) (x53.1.length : Int))).length : Int)) <|
          some (decide (x90.1 = (sub (((sub x53.1 (0 : Int) ((w64 ((w64 (x56 * (256 : Int))) + x57)).tmod (x53.1.length : Int))) ++ (chars [(IntKind.wrap .u8 (x86))])) ++ (sub x53.1 (w64 (((w64 ((w64 (x56 * (256 : Int))) + x57)).tmod (x53.1.length : Int)) + (1 : Int))) (x53.1.length : Int))) (0 : Int) x89.2.1)))
        else
          some false
      else
        some false
    else
      some false
  else
    some false
def m_laws_FnJournal_l4 (n : Nat) (more_ : List Int) (x52 : List Str) (x53 : Str × Bool) (x56 : Int) (x57 : Int) (x60 : List Str × Int × Bool) (v70 : Int) : Nat → Int → Option Bool
  | 0, _ => none
  | m103 + 1, v99 =>
    if v99 < v70 then
      (getI x60.1 v99).bind fun x108 =>
      (getI x52 v99).bind fun x109 =>
      if x108 = x109 then
        (m_laws_FnJournal_l4 n more_ x52 x53 x56 x57 x60 v70 m103) (w64 (v99 + (1 : Int)))
      else
        some false
    else
      m_laws_FnJournal_j3 n more_ x53 x56 x57 x60
def m_laws_FnJournal_j2 (n : Nat) (more_ : List Int) (x52 : List Str) (x53 : Str × Bool) (x56 : Int) (x57 : Int) (x60 : List Str × Int × Bool) (v70 : Int) : Option Bool :=
  m_laws_FnJournal_l4 n more_ x52 x53 x56 x57 x60 v70 n (0 : Int)
def m_laws_FnJournal_j5 (n : Nat) (more_ : List Int) (x52 : List Str) (x53 : Str × Bool) (x56 : Int) (x57 : Int) (x60 : List Str × Int × Bool) (v70 : Int) (v119 : Bool) : Option Bool :=
  if v119 = true then
    some false
  else
    m_laws_FnJournal_j2 n more_ x52 x53 x56 x57 x60 v70
def m_laws_FnJournal_j1 (n : Nat) (more_ : List Int) (x52 : List Str) (x53 : Str × Bool) (x56 : Int) (x57 : Int) (x60 : List Str × Int × Bool) (x61 : Str × Bool) (v70 : Int) : Option Bool :=
  if x60.2.2 = true then
    if x61.2 = true then
      if (x60.1.length : Int) = v70 then
        if x60.2.1 < (0 : Int) then
          m_laws_FnJournal_j5 n more_ x52 x53 x56 x57 x60 v70 true
        else
          if x60.2.1 > ((w64 ((w64 (x56 * (256 : Int))) + x57)).tmod (x53.1.length : Int)) then
            m_laws_FnJournal_j5 n more_ x52 x53 x56 x57 x60 v70 true
          else
            grd (0 ≤ (0 : Int) ∧ (0 : Int) ≤ x60.2.1 ∧ x60.2.1 ≤ (x53.1.length : Int)) <|
            m_laws_FnJournal_j5 n more_ x52 x53 x56 x57 x60 v70 (!(decide (x61.1 = (sub x53.1 (0 : Int) x60.2.1))))
      else
        m_laws_FnJournal_j5 n more_ x52 x53 x56 x57 x60 v70 true
    else
      m_laws_FnJournal_j5 n more_ x52 x53 x56 x57 x60 v70 true
  else
    m_laws_FnJournal_j5 n more_ x52 x53 x56 x57 x60 v70 true
def m_laws_FnJournal_j7 (n : Nat) (k138 : Int → Int → Option Bool) (v132 : Int) (v142 : Int) : Option Bool :=
  k138 v142 (w64 (v132 + (1 : Int)))
def m_laws_FnJournal_l6 (n : Nat) (more_ : List Int) (x52 : List Str) (x53 : Str × Bool) (x56 : Int) (x57 : Int) (x60 : List Str × Int × Bool) (x61 : Str × Bool) : Nat → Int → Int → Option Bool
  | 0, _, _ => none
  | m137 + 1, v131, v132 =>
    if v132 < ((w64 ((w64 (x56 * (256 : Int))) + x57)).tmod (x53.1.length : Int)) then
      (getI x53.1 v132).bind fun x144 =>
      if (x144.toNat : Int) = (10 : Int) then
        m_laws_FnJournal_j7 n (m_laws_FnJournal_l6 n more_ x52 x53 x56 x57 x60 x61 m137) v132 (w64 (v131 + (1 : Int)))
      else
        m_laws_FnJournal_j7 n (m_laws_FnJournal_l6 n more_ x52 x53 x56 x57 x60 x61 m137) v132 v131
    else
      m_laws_FnJournal_j1 n more_ x52 x53 x56 x57 x60 x61 v131
def m_laws_FnJournal (n : Nat) (code_ : List Int) (more_ : List Int) : Option Bool :=
  (m_laws_b10Long n code_ more_).bind fun x49 =>
  if x49 = true then
    some true
  else
    (m_spec_B10Desk n more_).bind fun x51 =>
    (m_spec_B10Lines n code_ (SDesk.mk (SFeeder.mk x51.Feeder.Source x51.Feeder.Buses) x51.Taps x51.List)).bind fun x52 =>
    (m_impl_JournalOf n x52).bind fun x53 =>
    if x53.2 = true then
      if (x53.1.length : Int) = (0 : Int) then
        some (decide ((x52.length : Int) = (0 : Int)))
      else
        (m_laws_b10At n more_ (0 : Int) (256 : Int)).bind fun x56 =>
        (m_laws_b10At n more_ (1 : Int) (256 : Int)).bind fun x57 =>
        grd ((x53.1.length : Int) ≠ 0) <|
        grd (0 ≤ (0 : Int) ∧ (0 : Int) ≤ ((w64 ((w64 (x56 * (256 : Int))) + x57)).tmod (x53.1.length : Int)) ∧ ((w64 ((w64 (x56 * (256 : Int))) + x57)).tmod (x53.1.length : Int)) ≤ (x53.1.length : Int)) <|
        (m_impl_RecoverJournal n (sub x53.1 (0 : Int) ((w64 ((w64 (x56 * (256 : Int))) + x57)).tmod (x53.1.length : Int)))).bind fun x60 =>
        (m_impl_JournalOf n x60.1).bind fun x61 =>
        m_laws_FnJournal_l6 n more_ x52 x53 x56 x57 x60 x61 n (0 : Int) (0 : Int)
    else
      some false
theorem laws_FnJournal_ok_fr0 (fr : Bool) (n : Nat) (code_ : List Int) (more_ : List Int) {r : Bool} (h : m_laws_FnJournal n code_ more_ = some r) : ACall prog fr 5 [.d (.sl false (code_.map eIntu8)), .d (.sl false (more_.map eIntu8))] [] (fun v o new => v = .d (.bool r) ∧ o = [] ∧ new = []) := by
  refine acall_of_aw hτ func5 rfl (by simp) (by simp) ?_
  unfold m_laws_FnJournal at h
  refine aw_seq ?_
  refine aw_region ?_
  refine awl_val hτ rfl rfl rfl ?_
  refine awl_nil ?_
  refine aw_seq ?_
  refine aw_seq ?_
  refine aw_region ?_
  refine awl_val hτ rfl rfl rfl ?_
  refine awl_val hτ rfl rfl rfl ?_
  refine bnd_elim h fun x49 hx49 h => ?_
  refine awl_callP hτ false [] rfl rfl rfl (enterOk func6 rfl rfl) rfl rfl (by simp) ⟨trivial, trivial, trivial⟩ (by repeat' first | exact trivial | refine ⟨?_, ?_⟩) (laws_b10Long_ok n code_ more_ hx49) ?_
  rintro r0 o0 n0 ⟨rfl, rfl, rfl⟩ -
  refine awl_nil ?_
  refine aw_cond rfl (fun hc50 => ?_) (fun hc50 => ?_)
  · have h := if_bt h hc50
    refine aw_seq ?_
    refine aw_region ?_
    refine awl_val hτ rfl rfl rfl ?_
    refine awl_nil ?_
    refine aw_weak (weak_ofP [] (l := [(4, .d (.bool true))]) (objs := []) rfl (by simp) rfl (by repeat' first | exact trivial | refine ⟨?_, ?_⟩) ⟨rfl, trivial, trivial⟩) ?_
    refine aw_ret ?_
    have hr := Option.some.inj h
    subst hr
    exact ret_objs (.inr rfl) [] (objs' := []) (new := []) rfl (by simp) (by simp) rfl (by repeat' first | exact trivial | refine ⟨?_, ?_⟩) rfl rfl (by repeat' first | exact trivial | refine ⟨?_, ?_⟩) (fun _ => ⟨by simp [V.flat, V.flatA, V.flatC, D.flat], flat_nil⟩) ⟨rfl, rfl, rfl⟩
  · have h := if_bf h hc50
    refine aw_skip ?_
    refine aw_seq ?_
    refine aw_region ?_
    refine awl_val hτ rfl rfl rfl ?_
    refine awl_val hτ rfl rfl rfl ?_
    refine bnd_elim h fun x51 hx51 h => ?_
    refine awl_callP hτ false [] rfl rfl rfl (enterOk func40 rfl rfl) rfl rfl (by simp) ⟨trivial, trivial⟩ (by repeat' first | exact trivial | refine ⟨?_, ?_⟩) (spec_B10Desk_ok n more_ hx51) ?_
    rintro r0 o0 n0 ⟨rfl, rfl, rfl⟩ -
    refine awl_weak (weak_ofP [0, 1, 2] (l := [(1, .d (.sl false (more_.map eIntu8))), (26, .d (.sl false (code_.map eIntu8))), (28, .agg [.d (.cx .f32 x51.Feeder.Source.A.re x51.Feeder.Source.A.im), .d (.cx .f32 x51.Feeder.Source.B.re x51.Feeder.Source.B.im), .d (.cx .f32 x51.Feeder.Source.C.re x51.Feeder.Source.C.im), .row 0 x51.Feeder.Buses.length 0 x51.Feeder.Buses.length, .row 1 x51.Taps.length 0 x51.Taps.length, .row 2 x51.List.length 0 x51.List.length])]) (objs := [.row 8 (x51.Feeder.Buses.map eSBus), .row 5 (x51.Taps.map eSTap), .row 3 (x51.List.map eSOutage)]) rfl (by simp) rfl (by repeat' first | exact trivial | refine ⟨?_, ?_⟩) ⟨rfl, trivial, rfl, trivial, rfl, (by repeat' first | exact trivial | refine ⟨?_, ?_⟩), trivial⟩) ?_
    refine bnd_elim h fun x52 hx52 h => ?_
    refine awl_callP hτ true [] rfl rfl rfl (enterOk func39 rfl rfl) (mapO_cons rfl (mapO_cons (exV_agg (mapO_cons rfl (mapO_cons rfl (mapO_cons rfl (mapO_cons (exC_view (f := eSBus) x51.Feeder.Buses rfl rfl rfl) (mapO_cons (exC_view (f := eSTap) x51.Taps rfl rfl rfl) (mapO_cons (exC_view (f := eSOutage) x51.List rfl rfl rfl) mapO_nil))))))) mapO_nil)) rfl (by simp) ⟨trivial, ⟨trivial, trivial, trivial, (exP_view (f := eSBus) x51.Feeder.Buses rfl rfl rfl), (exP_view (f := eSTap) x51.Taps rfl rfl rfl), (exP_view (f := eSOutage) x51.List rfl rfl rfl)⟩, trivial⟩ (by repeat' first | exact trivial | refine ⟨?_, ?_⟩) (spec_B10Lines_ok_fr n code_ (SDesk.mk (SFeeder.mk x51.Feeder.Source x51.Feeder.Buses) x51.Taps x51.List) hx52) ?_
    rintro r0 o0 n0 ⟨rfl, rfl, rfl⟩ -
    refine awl_val hτ rfl rfl rfl ?_
    refine awl_nil ?_
    refine aw_seq ?_
    refine aw_region ?_
    refine awl_val hτ rfl rfl rfl ?_
    refine awl_weak (weak_ofP [3] (l := [(1, .d (.sl false (more_.map eIntu8))), (5, .row 0 x52.length 0 x52.length), (31, .row 0 x52.length 0 x52.length)]) (objs := [.row 1 (x52.map eStr)]) rfl (by simp) rfl (by repeat' first | exact trivial | refine ⟨?_, ?_⟩) ⟨rfl, trivial, rfl, trivial, rfl, trivial, trivial⟩) ?_
    refine bnd_elim h fun x53 hx53 h => ?_
    refine awl_callP hτ true [] rfl rfl rfl (enterOk func41 rfl rfl) (mapO_cons (exV_view (f := eStr) x52 rfl rfl rfl) mapO_nil) rfl (by simp) ⟨(exVP_view (f := eStr) x52 rfl rfl rfl), trivial⟩ (by repeat' first | exact trivial | refine ⟨?_, ?_⟩) (impl_JournalOf_ok_fr n x52 hx53) ?_
    rintro r0 o0 n0 ⟨rfl, rfl, rfl⟩ -
    refine awl_val hτ rfl rfl rfl ?_
    refine awl_val hτ rfl rfl rfl ?_
    refine awl_val hτ rfl rfl rfl ?_
    refine awl_val hτ rfl rfl rfl ?_
    refine awl_val hτ rfl rfl rfl ?_
    refine awl_nil ?_
    refine aw_seq ?_
    refine aw_seq ?_
    refine aw_weak (weak_ofP [0] (l := [(1, .d (.sl false (more_.map eIntu8))), (5, .row 0 x52.length 0 x52.length), (6, .d (.str (bstr x53.1))), (7, .d (.bool x53.2))]) (objs := [.row 1 (x52.map eStr)]) rfl (by simp) rfl (by repeat' first | exact trivial | refine ⟨?_, ?_⟩) ⟨rfl, trivial, rfl, trivial, rfl, trivial, rfl, trivial, trivial⟩) ?_
    refine aw_region ?_
    refine awl_val hτ rfl rfl rfl ?_
    refine awl_val hτ rfl rfl rfl ?_
    refine awl_nil ?_
    refine aw_cond rfl (fun hc54 => ?_) (fun hc54 => ?_)
    · have hc54 := not_t hc54
      have h := if_bf h hc54
      refine aw_seq ?_
      refine aw_region ?_
      refine awl_val hτ rfl rfl rfl ?_
      refine awl_nil ?_
      refine aw_weak (weak_ofP [] (l := [(4, .d (.bool false))]) (objs := []) rfl (by simp) rfl (by repeat' first | exact trivial | refine ⟨?_, ?_⟩) ⟨rfl, trivial, trivial⟩) ?_
      refine aw_ret ?_
      have hr := Option.some.inj h
      subst hr
      exact ret_objs (.inr rfl) [] (objs' := []) (new := []) rfl (by simp) (by simp) rfl (by repeat' first | exact trivial | refine ⟨?_, ?_⟩) rfl rfl (by repeat' first | exact trivial | refine ⟨?_, ?_⟩) (fun _ => ⟨by simp [V.flat, V.flatA, V.flatC, D.flat], flat_nil⟩) ⟨rfl, rfl, rfl⟩
    · have hc54 := not_f hc54
      have h := if_bt h hc54
      refine aw_skip ?_
      refine aw_seq ?_
      refine aw_seq ?_
      refine aw_region ?_
      refine awl_val hτ rfl rfl rfl ?_
      refine awl_val hτ rfl rfl rfl ?_
      refine awl_val hτ (v := .d (.bool (decide ((x53.1.length : Int) = (0 : Int))))) rfl rfl (or_ieq _ _) ?_
      refine awl_nil ?_
      refine aw_cond rfl (fun hc55 => ?_) (fun hc55 => ?_)
      · have h := if_t h hc55
        refine aw_seq ?_
        refine aw_region ?_
        refine awl_val hτ rfl rfl rfl ?_
        refine awl_need hτ rfl rfl rfl (len_map _) ?_
        refine awl_val hτ (v := .d (.bool (decide ((x52.length : Int) = (0 : Int))))) rfl rfl (or_ieq _ _) ?_
        refine awl_val hτ rfl rfl rfl ?_
        refine awl_nil ?_
        refine aw_weak (weak_ofP [] (l := [(4, .d (.bool (decide ((x52.length : Int) = (0 : Int)))))]) (objs := []) rfl (by simp) rfl (by repeat' first | exact trivial | refine ⟨?_, ?_⟩) ⟨rfl, trivial, trivial⟩) ?_
        refine aw_ret ?_
        have hr := Option.some.inj h
        subst hr
        exact ret_objs (.inr rfl) [] (objs' := []) (new := []) rfl (by simp) (by simp) rfl (by repeat' first | exact trivial | refine ⟨?_, ?_⟩) rfl rfl (by repeat' first | exact trivial | refine ⟨?_, ?_⟩) (fun _ => ⟨by simp [V.flat, V.flatA, V.flatC, D.flat], flat_nil⟩) ⟨rfl, rfl, rfl⟩
      · have h := if_f h hc55
        refine aw_skip ?_
        refine aw_seq ?_
        refine aw_region ?_
        refine awl_val hτ rfl rfl rfl ?_
        refine bnd_elim h fun x56 hx56 h => ?_
        refine awl_callP hτ false [] rfl rfl rfl (enterOk func17 rfl rfl) rfl rfl (by simp) ⟨trivial, trivial, trivial, trivial⟩ (by repeat' first | exact trivial | refine ⟨?_, ?_⟩) (laws_b10At_ok n more_ (0 : Int) (256 : Int) hx56) ?_
        rintro r0 o0 n0 ⟨rfl, rfl, rfl⟩ -
        refine awl_val hτ rfl rfl rfl ?_
        refine awl_val hτ rfl rfl rfl ?_
        refine bnd_elim h fun x57 hx57 h => ?_
        refine awl_callP hτ false [] rfl rfl rfl (enterOk func17 rfl rfl) rfl rfl (by simp) ⟨trivial, trivial, trivial, trivial⟩ (by repeat' first | exact trivial | refine ⟨?_, ?_⟩) (laws_b10At_ok n more_ (1 : Int) (256 : Int) hx57) ?_
        rintro r0 o0 n0 ⟨rfl, rfl, rfl⟩ -
        refine awl_val hτ rfl rfl rfl ?_
        refine awl_val hτ rfl rfl rfl ?_
        refine awl_weak (weak_ofP [0] (l := [(1, .d (.sl false (more_.map eIntu8))), (5, .row 0 x52.length 0 x52.length), (6, .d (.str (bstr x53.1))), (48, .d (.int .i64 (w64 ((w64 (x56 * (256 : Int))) + x57)))), (49, .d (.str (bstr x53.1)))]) (objs := [.row 1 (x52.map eStr)]) rfl (by simp) rfl (by repeat' first | exact trivial | refine ⟨?_, ?_⟩) ⟨rfl, trivial, rfl, trivial, rfl, trivial, rfl, trivial, rfl, trivial, trivial⟩) ?_
        refine awl_val hτ rfl rfl rfl ?_
        refine grd_elim h fun hg58 h => ?_
        refine awl_need hτ rfl rfl rfl hg58 ?_
        refine awl_val hτ rfl rfl rfl ?_
        refine awl_nil ?_
        refine aw_seq ?_
        refine aw_region ?_
        refine awl_val hτ rfl rfl rfl ?_
        refine awl_val hτ rfl rfl rfl ?_
        refine grd_elim h fun hg59 h => ?_
        refine awl_need hτ (v := .d (.str (bstr (sub x53.1 (0 : Int) ((w64 ((w64 (x56 * (256 : Int))) + x57)).tmod (x53.1.length : Int)))))) rfl rfl (Eq.trans rfl (or_ssub _ _ _)) hg59 ?_
        refine bnd_elim h fun x60 hx60 h => ?_
        refine awl_callP hτ false [] rfl rfl rfl (enterOk func42 rfl rfl) rfl rfl (by simp) ⟨trivial, trivial⟩ (by repeat' first | exact trivial | refine ⟨?_, ?_⟩) (impl_RecoverJournal_ok n (sub x53.1 (0 : Int) ((w64 ((w64 (x56 * (256 : Int))) + x57)).tmod (x53.1.length : Int))) hx60) ?_
        rintro r0 o0 n0 ⟨rfl, rfl, rfl⟩ -
        refine awl_val hτ rfl rfl rfl ?_
        refine awl_val hτ rfl rfl rfl ?_
        refine awl_val hτ rfl rfl rfl ?_
        refine awl_val hτ rfl rfl rfl ?_
        refine awl_val hτ rfl rfl rfl ?_
        refine awl_weak (weak_ofP [0, 1] (l := [(1, .d (.sl false (more_.map eIntu8))), (5, .row 0 x52.length 0 x52.length), (6, .d (.str (bstr x53.1))), (8, .d (.int .i64 ((w64 ((w64 (x56 * (256 : Int))) + x57)).tmod (x53.1.length : Int)))), (9, .row 1 x60.1.length 0 x60.1.length), (58, .d (.int .i64 x60.2.1)), (59, .d (.bool x60.2.2))]) (objs := [.row 1 (x52.map eStr), .row 1 (x60.1.map eStr)]) rfl (by simp) rfl (by repeat' first | exact trivial | refine ⟨?_, ?_⟩) ⟨rfl, trivial, rfl, trivial, rfl, trivial, rfl, trivial, rfl, trivial, rfl, trivial, rfl, trivial, trivial⟩) ?_
        refine awl_val hτ rfl rfl rfl ?_
        refine awl_val hτ rfl rfl rfl ?_
        refine awl_nil ?_
        refine aw_seq ?_
        refine aw_region ?_
        refine awl_val hτ rfl rfl rfl ?_
        refine awl_weak (weak_ofP [0, 1] (l := [(1, .d (.sl false (more_.map eIntu8))), (5, .row 0 x52.length 0 x52.length), (6, .d (.str (bstr x53.1))), (8, .d (.int .i64 ((w64 ((w64 (x56 * (256 : Int))) + x57)).tmod (x53.1.length : Int)))), (9, .row 1 x60.1.length 0 x60.1.length), (10, .d (.int .i64 x60.2.1)), (11, .d (.bool x60.2.2)), (61, .row 1 x60.1.length 0 x60.1.length)]) (objs := [.row 1 (x52.map eStr), .row 1 (x60.1.map eStr)]) rfl (by simp) rfl (by repeat' first | exact trivial | refine ⟨?_, ?_⟩) ⟨rfl, trivial, rfl, trivial, rfl, trivial, rfl, trivial, rfl, trivial, rfl, trivial, rfl, trivial, rfl, trivial, trivial⟩) ?_
        refine bnd_elim h fun x61 hx61 h => ?_
        refine awl_callP hτ true [] rfl rfl rfl (enterOk func41 rfl rfl) (mapO_cons (exV_view (f := eStr) x60.1 rfl rfl rfl) mapO_nil) rfl (by simp) ⟨(exVP_view (f := eStr) x60.1 rfl rfl rfl), trivial⟩ (by repeat' first | exact trivial | refine ⟨?_, ?_⟩) (impl_JournalOf_ok_fr n x60.1 hx61) ?_
        rintro r0 o0 n0 ⟨rfl, rfl, rfl⟩ -
        refine awl_val hτ rfl rfl rfl ?_
        refine awl_val hτ rfl rfl rfl ?_
        refine awl_val hτ rfl rfl rfl ?_
        refine awl_val hτ rfl rfl rfl ?_
        refine awl_val hτ rfl rfl rfl ?_
        refine awl_nil ?_
        refine aw_seq ?_
        refine aw_weak (weak_ofP [0, 1] (l := [(1, .d (.sl false (more_.map eIntu8))), (5, .row 0 x52.length 0 x52.length), (6, .d (.str (bstr x53.1))), (8, .d (.int .i64 ((w64 ((w64 (x56 * (256 : Int))) + x57)).tmod (x53.1.length : Int)))), (9, .row 1 x60.1.length 0 x60.1.length), (10, .d (.int .i64 x60.2.1)), (11, .d (.bool x60.2.2)), (12, .d (.str (bstr x61.1))), (13, .d (.bool x61.2))]) (objs := [.row 1 (x52.map eStr), .row 1 (x60.1.map eStr)]) rfl (by simp) rfl (by repeat' first | exact trivial | refine ⟨?_, ?_⟩) ⟨rfl, trivial, rfl, trivial, rfl, trivial, rfl, trivial, rfl, trivial, rfl, trivial, rfl, trivial, rfl, trivial, rfl, trivial, trivial⟩) ?_
        refine aw_region ?_
        refine awl_val hτ rfl rfl rfl ?_
        refine awl_nil ?_
        refine aw_hk1 (ι := Int) (fun v70 => St.of [(1, .d (.sl false (more_.map eIntu8))), (5, .row 0 x52.length 0 x52.length), (6, .d (.str (bstr x53.1))), (8, .d (.int .i64 ((w64 ((w64 (x56 * (256 : Int))) + x57)).tmod (x53.1.length : Int)))), (9, .row 1 x60.1.length 0 x60.1.length), (10, .d (.int .i64 x60.2.1)), (11, .d (.bool x60.2.2)), (12, .d (.str (bstr x61.1))), (13, .d (.bool x61.2)), (14, .d (.int .i64 v70))] [.row 1 (x52.map eStr), .row 1 (x60.1.map eStr)] f5.ntmps 0) (fun v70 => m_laws_FnJournal_j1 n more_ x52 x53 x56 x57 x60 x61 v70 = some r) ?_ (fun hk128 => ?_)
        · rintro v70 h
          replace h : m_laws_FnJournal_j1 n more_ x52 x53 x56 x57 x60 x61 v70 = some r := h
          unfold m_laws_FnJournal_j1 at h
          refine aw_hk1 (ι := Unit) (fun _ => St.of [(1, .d (.sl false (more_.map eIntu8))), (5, .row 0 x52.length 0 x52.length), (6, .d (.str (bstr x53.1))), (8, .d (.int .i64 ((w64 ((w64 (x56 * (256 : Int))) + x57)).tmod (x53.1.length : Int)))), (9, .row 1 x60.1.length 0 x60.1.length), (10, .d (.int .i64 x60.2.1)), (14, .d (.int .i64 v70))] [.row 1 (x52.map eStr), .row 1 (x60.1.map eStr)] f5.ntmps 0) (fun _ => m_laws_FnJournal_j2 n more_ x52 x53 x56 x57 x60 v70 = some r) ?_ (fun hk111 => ?_)
          · rintro ⟨⟩ h
            replace h : m_laws_FnJournal_j2 n more_ x52 x53 x56 x57 x60 v70 = some r := h
            unfold m_laws_FnJournal_j2 at h
            refine aw_hk1 (ι := Unit) (fun _ => St.of [(1, .d (.sl false (more_.map eIntu8))), (6, .d (.str (bstr x53.1))), (8, .d (.int .i64 ((w64 ((w64 (x56 * (256 : Int))) + x57)).tmod (x53.1.length : Int)))), (10, .d (.int .i64 x60.2.1))] [] f5.ntmps 0) (fun _ => m_laws_FnJournal_j3 n more_ x53 x56 x57 x60 = some r) ?_ (fun hk96 => ?_)
            · rintro ⟨⟩ h
              replace h : m_laws_FnJournal_j3 n more_ x53 x56 x57 x60 = some r := h
              unfold m_laws_FnJournal_j3 at h
              refine aw_seq ?_
              refine any_start ?_
              refine any_val hτ [] 0 rfl rfl rfl rfl rfl ?_
              refine any_val hτ [] 1 rfl rfl rfl rfl rfl ?_
              refine grd_elim h fun hg84 h => ?_
              refine any_need hτ (v := .d (.str (bstr (sub x53.1 (0 : Int) ((w64 ((w64 (x56 * (256 : Int))) + x57)).tmod (x53.1.length : Int)))))) [] 2 rfl rfl rfl rfl (Eq.trans rfl (or_ssub _ _ _)) hg84 ?_
              refine any_val hτ [] 3 rfl rfl rfl rfl rfl ?_
              refine any_val hτ [] 9 rfl rfl rfl rfl rfl ?_
              refine any_val hτ [] 10 rfl rfl rfl rfl rfl ?_
              refine any_val hτ [] 11 rfl rfl rfl rfl rfl ?_
              refine grd_elim h fun hg85 h => ?_
              refine any_need hτ (v := .d (.str (bstr (sub x53.1 (w64 (((w64 ((w64 (x56 * (256 : Int))) + x57)).tmod (x53.1.length : Int)) + (1 : Int))) (x53.1.length : Int))))) [] 12 rfl rfl rfl rfl (Eq.trans rfl (or_ssub _ _ _)) hg85 ?_
              refine bnd_elim h fun x86 hx86 h => ?_
              refine any_callP hτ false [] [] 4 rfl rfl rfl rfl (enterOk func17 rfl rfl) rfl rfl (by simp) ⟨trivial, trivial, trivial, trivial⟩ (by repeat' first | exact trivial | refine ⟨?_, ?_⟩) (laws_b10At_ok n more_ (2 : Int) (256 : Int) hx86) trivial ?_
              refine any_val hτ [] 5 rfl rfl rfl rfl rfl ?_
              refine any_valHP hτ [] 6 rfl rfl rfl rfl trivial ?_
              refine any_x [0] 7 rfl rfl rfl (x_b2s hτ (f := eIntu8) (l := [(IntKind.wrap .u8 (x86))]) rfl rfl rfl rfl rfl rfl rfl (fun _ => rfl) (slice_row [(IntKind.wrap .u8 (x86))] rfl rfl) ⟨len_map _, by omega⟩) ⟨rfl, trivial⟩ ?_
              refine grd_elim h fun hg87 h => ?_
              refine any_need hτ (v := .d (.str (bstr ((sub x53.1 (0 : Int) ((w64 ((w64 (x56 * (256 : Int))) + x57)).tmod (x53.1.length : Int))) ++ (chars [(IntKind.wrap .u8 (x86))]))))) [] 8 rfl rfl rfl rfl (Eq.trans rfl (or_cat _ _)) hg87 ?_
              refine grd_elim h fun hg88 h => ?_
              refine any_need hτ (v := .d (.str (bstr (((sub x53.1 (0 : Int) ((w64 ((w64 (x56 * (256 : Int))) + x57)).tmod (x53.1.length : Int))) ++ (chars [(IntKind.wrap .u8 (x86))])) ++ (sub x53.1 (w64 (((w64 ((w64 (x56 * (256 : Int))) + x57)).tmod (x53.1.length : Int)) + (1 : Int))) (x53.1.length : Int)))))) [] 13 rfl rfl rfl rfl (Eq.trans rfl (or_cat _ _)) hg88 ?_
              refine any_val hτ [] 14 rfl rfl rfl rfl rfl ?_
              refine any_done mixed (by kernel_rfl) ?_
              refine aw_seq ?_
              refine aw_weak (weak_ofP [] (l := [(10, .d (.int .i64 x60.2.1)), (17, .d (.str (bstr (((sub x53.1 (0 : Int) ((w64 ((w64 (x56 * (256 : Int))) + x57)).tmod (x53.1.length : Int))) ++ (chars [(IntKind.wrap .u8 (x86))])) ++ (sub x53.1 (w64 (((w64 ((w64 (x56 * (256 : Int))) + x57)).tmod (x53.1.length : Int)) + (1 : Int))) (x53.1.length : Int))))))]) (objs := []) rfl (by simp) rfl (by repeat' first | exact trivial | refine ⟨?_, ?_⟩) ⟨rfl, trivial, rfl, trivial, trivial⟩) ?_
              refine aw_region ?_
              refine awl_val hτ rfl rfl rfl ?_
              refine bnd_elim h fun x89 hx89 h => ?_
              refine awl_callP hτ false [] rfl rfl rfl (enterOk func42 rfl rfl) rfl rfl (by simp) ⟨trivial, trivial⟩ (by repeat' first | exact trivial | refine ⟨?_, ?_⟩) (impl_RecoverJournal_ok n (((sub x53.1 (0 : Int) ((w64 ((w64 (x56 * (256 : Int))) + x57)).tmod (x53.1.length : Int))) ++ (chars [(IntKind.wrap .u8 (x86))])) ++ (sub x53.1 (w64 (((w64 ((w64 (x56 * (256 : Int))) + x57)).tmod (x53.1.length : Int)) + (1 : Int))) (x53.1.length : Int))) hx89) ?_
              rintro r0 o0 n0 ⟨rfl, rfl, rfl⟩ -
              refine awl_val hτ rfl rfl rfl ?_
              refine awl_val hτ rfl rfl rfl ?_
              refine awl_val hτ rfl rfl rfl ?_
              refine awl_val hτ rfl rfl rfl ?_
              refine awl_val hτ rfl rfl rfl ?_
              refine awl_val hτ rfl rfl rfl ?_
              refine awl_val hτ rfl rfl rfl ?_
              refine awl_nil ?_
              refine aw_seq ?_
              refine aw_weak (weak_ofP [0] (l := [(10, .d (.int .i64 x60.2.1)), (17, .d (.str (bstr (((sub x53.1 (0 : Int) ((w64 ((w64 (x56 * (256 : Int))) + x57)).tmod (x53.1.length : Int))) ++ (chars [(IntKind.wrap .u8 (x86))])) ++ (sub x53.1 (w64 (((w64 ((w64 (x56 * (256 : Int))) + x57)).tmod (x53.1.length : Int)) + (1 : Int))) (x53.1.length : Int)))))), (18, .row 0 x89.1.length 0 x89.1.length), (19, .d (.int .i64 x89.2.1)), (20, .d (.bool x89.2.2))]) (objs := [.row 1 (x89.1.map eStr)]) rfl (by simp) rfl (by repeat' first | exact trivial | refine ⟨?_, ?_⟩) ⟨rfl, trivial, rfl, trivial, rfl, trivial, rfl, trivial, rfl, trivial, trivial⟩) ?_
              refine aw_region ?_
              refine awl_val hτ rfl rfl rfl ?_
              refine awl_weak (weak_ofP [0] (l := [(10, .d (.int .i64 x60.2.1)), (17, .d (.str (bstr (((sub x53.1 (0 : Int) ((w64 ((w64 (x56 * (256 : Int))) + x57)).tmod (x53.1.length : Int))) ++ (chars [(IntKind.wrap .u8 (x86))])) ++ (sub x53.1 (w64 (((w64 ((w64 (x56 * (256 : Int))) + x57)).tmod (x53.1.length : Int)) + (1 : Int))) (x53.1.length : Int)))))), (19, .d (.int .i64 x89.2.1)), (20, .d (.bool x89.2.2)), (139, .row 0 x89.1.length 0 x89.1.length)]) (objs := [.row 1 (x89.1.map eStr)]) rfl (by simp) rfl (by repeat' first | exact trivial | refine ⟨?_, ?_⟩) ⟨rfl, trivial, rfl, trivial, rfl, trivial, rfl, trivial, rfl, trivial, trivial⟩) ?_
              refine bnd_elim h fun x90 hx90 h => ?_
              refine awl_callP hτ true [] rfl rfl rfl (enterOk func41 rfl rfl) (mapO_cons (exV_view (f := eStr) x89.1 rfl rfl rfl) mapO_nil) rfl (by simp) ⟨(exVP_view (f := eStr) x89.1 rfl rfl rfl), trivial⟩ (by repeat' first | exact trivial | refine ⟨?_, ?_⟩) (impl_JournalOf_ok_fr n x89.1 hx90) ?_
              rintro r0 o0 n0 ⟨rfl, rfl, rfl⟩ -
              refine awl_val hτ rfl rfl rfl ?_
              refine awl_val hτ rfl rfl rfl ?_
              refine awl_val hτ rfl rfl rfl ?_
              refine awl_val hτ rfl rfl rfl ?_
              refine awl_val hτ rfl rfl rfl ?_
              refine awl_nil ?_
              refine aw_seq ?_
              refine aw_weak (weak_ofP [] (l := [(10, .d (.int .i64 x60.2.1)), (17, .d (.str (bstr (((sub x53.1 (0 : Int) ((w64 ((w64 (x56 * (256 : Int))) + x57)).tmod (x53.1.length : Int))) ++ (chars [(IntKind.wrap .u8 (x86))])) ++ (sub x53.1 (w64 (((w64 ((w64 (x56 * (256 : Int))) + x57)).tmod (x53.1.length : Int)) + (1 : Int))) (x53.1.length : Int)))))), (19, .d (.int .i64 x89.2.1)), (20, .d (.bool x89.2.2)), (21, .d (.str (bstr x90.1))), (22, .d (.bool x90.2))]) (objs := []) rfl (by simp) rfl (by repeat' first | exact trivial | refine ⟨?_, ?_⟩) ⟨rfl, trivial, rfl, trivial, rfl, trivial, rfl, trivial, rfl, trivial, rfl, trivial, trivial⟩) ?_
              refine aw_region ?_
              refine awl_val hτ rfl rfl rfl ?_
              refine awl_val hτ rfl rfl rfl ?_
              refine awl_split 144 rfl (fun hb91 => ?_) (fun hb91 => ?_)
              · have h := if_bt h hb91
                refine awl_val hτ rfl rfl rfl ?_
                refine awl_val hτ rfl rfl rfl ?_
                refine awl_val hτ rfl rfl rfl ?_
                refine awl_split 147 rfl (fun hb92 => ?_) (fun hb92 => ?_)
                · have h := if_bt h hb92
                  refine awl_val hτ rfl rfl rfl ?_
                  refine awl_val hτ rfl rfl rfl ?_
                  refine awl_val hτ rfl rfl rfl ?_
                  refine awl_val hτ rfl rfl rfl ?_
                  refine awl_val hτ rfl rfl rfl ?_
                  refine awl_split 152 rfl (fun hb93 => ?_) (fun hb93 => ?_)
                  · have h := if_t h hb93
                    refine awl_val hτ rfl rfl rfl ?_
                    refine awl_val hτ rfl rfl rfl ?_
                    refine awl_weak (weak_ofP [] (l := [(17, .d (.str (bstr (((sub x53.1 (0 : Int) ((w64 ((w64 (x56 * (256 : Int))) + x57)).tmod (x53.1.length : Int))) ++ (chars [(IntKind.wrap .u8 (x86))])) ++ (sub x53.1 (w64 (((w64 ((w64 (x56 * (256 : Int))) + x57)).tmod (x53.1.length : Int)) + (1 : Int))) (x53.1.length : Int)))))), (19, .d (.int .i64 x89.2.1)), (21, .d (.str (bstr x90.1))), (152, .d (.bool true)), (153, .d (.int .i64 x89.2.1)), (154, .d (.str (bstr (((sub x53.1 (0 : Int) ((w64 ((w64 (x56 * (256 : Int))) + x57)).tmod (x53.1.length : Int))) ++ (chars [(IntKind.wrap .u8 (x86))])) ++ (sub x53.1 (w64 (((w64 ((w64 (x56 * (256 : Int))) + x57)).tmod (x53.1.length : Int)) + (1 : Int))) (x53.1.length : Int))))))]) (objs := []) rfl (by simp) rfl (by repeat' first | exact trivial | refine ⟨?_, ?_⟩) ⟨rfl, trivial, rfl, trivial, rfl, trivial, rfl, trivial, rfl, trivial, rfl, trivial, trivial⟩) ?_
                    refine awl_val hτ rfl rfl rfl ?_
                    refine awl_val hτ rfl rfl rfl ?_
                    refine awl_val hτ rfl rfl rfl ?_
                    refine awl_val hτ rfl rfl rfl ?_
                    refine awl_split 158 rfl (fun hb94 => ?_) (fun hb94 => ?_)
                    · have h := if_t h hb94
                      refine awl_val hτ rfl rfl rfl ?_
                      refine awl_val hτ rfl rfl rfl ?_
                      refine awl_val hτ rfl rfl rfl ?_
                      refine grd_elim h fun hg95 h => ?_
                      refine awl_need hτ (v := .d (.str (bstr (sub (((sub x53.1 (0 : Int) ((w64 ((w64 (x56 * (256 : Int))) + x57)).tmod (x53.1.length : Int))) ++ (chars [(IntKind.wrap .u8 (x86))])) ++ (sub x53.1 (w64 (((w64 ((w64 (x56 * (256 : Int))) + x57)).tmod (x53.1.length : Int)) + (1 : Int))) (x53.1.length : Int))) (0 : Int) x89.2.1)))) rfl rfl (Eq.trans rfl (or_ssub _ _ _)) hg95 ?_
                      refine awl_val hτ (v := .d (.bool (decide (x90.1 = (sub (((sub x53.1 (0 : Int) ((w64 ((w64 (x56 * (256 : Int))) + x57)).tmod (x53.1.length : Int))) ++ (chars [(IntKind.wrap .u8 (x86))])) ++ (sub x53.1 (w64 (((w64 ((w64 (x56 * (256 : Int))) + x57)).tmod (x53.1.length : Int)) + (1 : Int))) (x53.1.length : Int))) (0 : Int) x89.2.1))))) rfl rfl (or_seq _ _) ?_
                      refine awl_val hτ rfl rfl rfl ?_
                      refine awl_val hτ rfl rfl rfl ?_
                      refine awl_nil ?_
                      refine aw_weak (weak_ofP [] (l := [(4, .d (.bool (decide (x90.1 = (sub (((sub x53.1 (0 : Int) ((w64 ((w64 (x56 * (256 : Int))) + x57)).tmod (x53.1.length : Int))) ++ (chars [(IntKind.wrap .u8 (x86))])) ++ (sub x53.1 (w64 (((w64 ((w64 (x56 * (256 : Int))) + x57)).tmod (x53.1.length : Int)) + (1 : Int))) (x53.1.length : Int))) (0 : Int) x89.2.1)))))]) (objs := []) rfl (by simp) rfl (by repeat' first | exact trivial | refine ⟨?_, ?_⟩) ⟨rfl, trivial, trivial⟩) ?_
                      refine aw_ret ?_
                      have hr := Option.some.inj h
                      subst hr
                      exact ret_objs (.inr rfl) [] (objs' := []) (new := []) rfl (by simp) (by simp) rfl (by repeat' first | exact trivial | refine ⟨?_, ?_⟩) rfl rfl (by repeat' first | exact trivial | refine ⟨?_, ?_⟩) (fun _ => ⟨by simp [V.flat, V.flatA, V.flatC, D.flat], flat_nil⟩) ⟨rfl, rfl, rfl⟩
                    · have h := if_f h hb94
                      refine awl_skip rfl rfl ?_
                      refine awl_skip rfl rfl ?_
                      refine awl_skip rfl rfl ?_
                      refine awl_skip rfl rfl ?_
                      refine awl_skip rfl rfl ?_
                      refine awl_val hτ rfl rfl rfl ?_
                      refine awl_val hτ rfl rfl rfl ?_
                      refine awl_nil ?_
                      refine aw_weak (weak_ofP [] (l := [(4, .d (.bool false))]) (objs := []) rfl (by simp) rfl (by repeat' first | exact trivial | refine ⟨?_, ?_⟩) ⟨rfl, trivial, trivial⟩) ?_
                      refine aw_ret ?_
                      have hr := Option.some.inj h
                      subst hr
                      exact ret_objs (.inr rfl) [] (objs' := []) (new := []) rfl (by simp) (by simp) rfl (by repeat' first | exact trivial | refine ⟨?_, ?_⟩) rfl rfl (by repeat' first | exact trivial | refine ⟨?_, ?_⟩) (fun _ => ⟨by simp [V.flat, V.flatA, V.flatC, D.flat], flat_nil⟩) ⟨rfl, rfl, rfl⟩
                  · have h := if_f h hb93
                    refine awl_skip rfl rfl ?_
                    refine awl_skip rfl rfl ?_
                    refine awl_weak (weak_ofP [] (l := [(17, .d (.str (bstr (((sub x53.1 (0 : Int) ((w64 ((w64 (x56 * (256 : Int))) + x57)).tmod (x53.1.length : Int))) ++ (chars [(IntKind.wrap .u8 (x86))])) ++ (sub x53.1 (w64 (((w64 ((w64 (x56 * (256 : Int))) + x57)).tmod (x53.1.length : Int)) + (1 : Int))) (x53.1.length : Int)))))), (19, .d (.int .i64 x89.2.1)), (21, .d (.str (bstr x90.1))), (152, .d (.bool false)), (153, .und), (154, .und)]) (objs := []) rfl (by simp) rfl (by repeat' first | exact trivial | refine ⟨?_, ?_⟩) ⟨rfl, trivial, rfl, trivial, rfl, trivial, rfl, trivial, rfl, trivial, rfl, trivial, trivial⟩) ?_
                    refine awl_skip rfl rfl ?_
                    refine awl_skip rfl rfl ?_
                    refine awl_val hτ rfl rfl rfl ?_
                    refine awl_val hτ rfl rfl rfl ?_
                    refine awl_skip rfl rfl ?_
                    refine awl_skip rfl rfl ?_
                    refine awl_skip rfl rfl ?_
                    refine awl_skip rfl rfl ?_
                    refine awl_skip rfl rfl ?_
                    refine awl_val hτ rfl rfl rfl ?_
                    refine awl_val hτ rfl rfl rfl ?_
                    refine awl_nil ?_
                    refine aw_weak (weak_ofP [] (l := [(4, .d (.bool false))]) (objs := []) rfl (by simp) rfl (by repeat' first | exact trivial | refine ⟨?_, ?_⟩) ⟨rfl, trivial, trivial⟩) ?_
                    refine aw_ret ?_
                    have hr := Option.some.inj h
                    subst hr
                    exact ret_objs (.inr rfl) [] (objs' := []) (new := []) rfl (by simp) (by simp) rfl (by repeat' first | exact trivial | refine ⟨?_, ?_⟩) rfl rfl (by repeat' first | exact trivial | refine ⟨?_, ?_⟩) (fun _ => ⟨by simp [V.flat, V.flatA, V.flatC, D.flat], flat_nil⟩) ⟨rfl, rfl, rfl⟩
                · have h := if_bf h hb92
                  refine awl_skip rfl rfl ?_
                  refine awl_skip rfl rfl ?_
                  refine awl_skip rfl rfl ?_
                  refine awl_val hτ rfl rfl rfl ?_
                  refine awl_val hτ rfl rfl rfl ?_
                  refine awl_skip rfl rfl ?_
                  refine awl_skip rfl rfl ?_
                  refine awl_weak (weak_ofP [] (l := [(17, .d (.str (bstr (((sub x53.1 (0 : Int) ((w64 ((w64 (x56 * (256 : Int))) + x57)).tmod (x53.1.length : Int))) ++ (chars [(IntKind.wrap .u8 (x86))])) ++ (sub x53.1 (w64 (((w64 ((w64 (x56 * (256 : Int))) + x57)).tmod (x53.1.length : Int)) + (1 : Int))) (x53.1.length : Int)))))), (19, .d (.int .i64 x89.2.1)), (21, .d (.str (bstr x90.1))), (152, .d (.bool false)), (153, .und), (154, .und)]) (objs := []) rfl (by simp) rfl (by repeat' first | exact trivial | refine ⟨?_, ?_⟩) ⟨rfl, trivial, rfl, trivial, rfl, trivial, rfl, trivial, rfl, trivial, rfl, trivial, trivial⟩) ?_
                  refine awl_skip rfl rfl ?_
                  refine awl_skip rfl rfl ?_
                  refine awl_val hτ rfl rfl rfl ?_
                  refine awl_val hτ rfl rfl rfl ?_
                  refine awl_skip rfl rfl ?_
                  refine awl_skip rfl rfl ?_
                  refine awl_skip rfl rfl ?_
                  refine awl_skip rfl rfl ?_
                  refine awl_skip rfl rfl ?_
                  refine awl_val hτ rfl rfl rfl ?_
                  refine awl_val hτ rfl rfl rfl ?_
                  refine awl_nil ?_
                  refine aw_weak (weak_ofP [] (l := [(4, .d (.bool false))]) (objs := []) rfl (by simp) rfl (by repeat' first | exact trivial | refine ⟨?_, ?_⟩) ⟨rfl, trivial, trivial⟩) ?_
                  refine aw_ret ?_
                  have hr := Option.some.inj h
                  subst hr
                  exact ret_objs (.inr rfl) [] (objs' := []) (new := []) rfl (by simp) (by simp) rfl (by repeat' first | exact trivial | refine ⟨?_, ?_⟩) rfl rfl (by repeat' first | exact trivial | refine ⟨?_, ?_⟩) (fun _ => ⟨by simp [V.flat, V.flatA, V.flatC, D.flat], flat_nil⟩) ⟨rfl, rfl, rfl⟩
              · have h := if_bf h hb91
                refine awl_skip rfl rfl ?_
                refine awl_val hτ rfl rfl rfl ?_
                refine awl_val hτ rfl rfl rfl ?_
                refine awl_skip rfl rfl ?_
                refine awl_skip rfl rfl ?_
                refine awl_skip rfl rfl ?_
                refine awl_val hτ rfl rfl rfl ?_
                refine awl_val hτ rfl rfl rfl ?_
                refine awl_skip rfl rfl ?_
                refine awl_skip rfl rfl ?_
                refine awl_weak (weak_ofP [] (l := [(17, .d (.str (bstr (((sub x53.1 (0 : Int) ((w64 ((w64 (x56 * (256 : Int))) + x57)).tmod (x53.1.length : Int))) ++ (chars [(IntKind.wrap .u8 (x86))])) ++ (sub x53.1 (w64 (((w64 ((w64 (x56 * (256 : Int))) + x57)).tmod (x53.1.length : Int)) + (1 : Int))) (x53.1.length : Int)))))), (19, .d (.int .i64 x89.2.1)), (21, .d (.str (bstr x90.1))), (152, .d (.bool false)), (153, .und), (154, .und)]) (objs := []) rfl (by simp) rfl (by repeat' first | exact trivial | refine ⟨?_, ?_⟩) ⟨rfl, trivial, rfl, trivial, rfl, trivial, rfl, trivial, rfl, trivial, rfl, trivial, trivial⟩) ?_
                refine awl_skip rfl rfl ?_
                refine awl_skip rfl rfl ?_
                refine awl_val hτ rfl rfl rfl ?_
                refine awl_val hτ rfl rfl rfl ?_
                refine awl_skip rfl rfl ?_
                refine awl_skip rfl rfl ?_
                refine awl_skip rfl rfl ?_
                refine awl_skip rfl rfl ?_
                refine awl_skip rfl rfl ?_
                refine awl_val hτ rfl rfl rfl ?_
                refine awl_val hτ rfl rfl rfl ?_
                refine awl_nil ?_
                refine aw_weak (weak_ofP [] (l := [(4, .d (.bool false))]) (objs := []) rfl (by simp) rfl (by repeat' first | exact trivial | refine ⟨?_, ?_⟩) ⟨rfl, trivial, trivial⟩) ?_
                refine aw_ret ?_
                have hr := Option.some.inj h
                subst hr
                exact ret_objs (.inr rfl) [] (objs' := []) (new := []) rfl (by simp) (by simp) rfl (by repeat' first | exact trivial | refine ⟨?_, ?_⟩) rfl rfl (by repeat' first | exact trivial | refine ⟨?_, ?_⟩) (fun _ => ⟨by simp [V.flat, V.flatA, V.flatC, D.flat], flat_nil⟩) ⟨rfl, rfl, rfl⟩
            · refine aw_seq ?_
              refine aw_seq ?_
              refine aw_region ?_
              refine awl_val hτ rfl rfl rfl ?_
              refine awl_nil ?_
              refine aw_block ?_
              refine aw_loop (ι := Nat × Int) (fun (m103, v99) => St.of [(1, .d (.sl false (more_.map eIntu8))), (5, .row 0 x52.length 0 x52.length), (6, .d (.str (bstr x53.1))), (8, .d (.int .i64 ((w64 ((w64 (x56 * (256 : Int))) + x57)).tmod (x53.1.length : Int)))), (9, .row 1 x60.1.length 0 x60.1.length), (10, .d (.int .i64 x60.2.1)), (14, .d (.int .i64 v70)), (16, .d (.int .i64 v99))] [.row 1 (x52.map eStr), .row 1 (x60.1.map eStr)] f5.ntmps 0) (fun (m103, v99) => m_laws_FnJournal_l4 n more_ x52 x53 x56 x57 x60 v70 m103 v99 = some r) (fun x => x.1) (n, (0 : Int)) h (weak_ofP [0, 1] (l := [(1, .d (.sl false (more_.map eIntu8))), (5, .row 0 x52.length 0 x52.length), (6, .d (.str (bstr x53.1))), (8, .d (.int .i64 ((w64 ((w64 (x56 * (256 : Int))) + x57)).tmod (x53.1.length : Int)))), (9, .row 1 x60.1.length 0 x60.1.length), (10, .d (.int .i64 x60.2.1)), (14, .d (.int .i64 v70)), (16, .d (.int .i64 (0 : Int)))]) (objs := [.row 1 (x52.map eStr), .row 1 (x60.1.map eStr)]) rfl (by simp) rfl (by repeat' first | exact trivial | refine ⟨?_, ?_⟩) ⟨rfl, trivial, rfl, trivial, rfl, trivial, rfl, trivial, rfl, trivial, rfl, trivial, rfl, trivial, rfl, trivial, trivial⟩) ?_
              rintro ⟨m103, v99⟩ h
              replace h : m_laws_FnJournal_l4 n more_ x52 x53 x56 x57 x60 v70 m103 v99 = some r := h
              rcases m103 with _ | m103
              · rw [m_laws_FnJournal_l4] at h; cases h
              rw [m_laws_FnJournal_l4] at h
              refine aw_seq ?_
              refine aw_seq ?_
              refine aw_region ?_
              refine awl_val hτ rfl rfl rfl ?_
              refine awl_val hτ rfl rfl rfl ?_
              refine awl_val hτ rfl rfl rfl ?_
              refine awl_nil ?_
              refine aw_cond rfl (fun hc105 => ?_) (fun hc105 => ?_)
              · have h := if_t h hc105
                refine aw_skip ?_
                refine aw_seq ?_
                refine aw_block ?_
                refine aw_seq ?_
                refine any_start ?_
                refine any_val hτ [] 0 rfl rfl rfl rfl rfl ?_
                refine any_val hτ [] 1 rfl rfl rfl rfl rfl ?_
                refine bnd_elim h fun x108 hx108 h => ?_
                refine any_need hτ [1] 2 rfl rfl rfl rfl rfl (row_need hx108) ?_
                refine any_elem hτ [1] 3 rfl rfl rfl rfl rfl (len_map _) (row_get hx108) rfl ?_
                refine any_val hτ [] 4 rfl rfl rfl rfl rfl ?_
                refine any_val hτ [] 5 rfl rfl rfl rfl rfl ?_
                refine bnd_elim h fun x109 hx109 h => ?_
                refine any_need hτ [0] 6 rfl rfl rfl rfl rfl (row_need hx109) ?_
                refine any_elem hτ [0] 7 rfl rfl rfl rfl rfl (len_map _) (row_get hx109) rfl ?_
                refine any_val hτ (v := .d (.bool (!(decide (x108 = x109))))) [] 8 rfl rfl rfl rfl (or_sne _ _) ?_
                refine any_done mixed (by kernel_rfl) ?_
                refine aw_weak (weak_ofP [0, 1] (l := [(1, .d (.sl false (more_.map eIntu8))), (5, .row 0 x52.length 0 x52.length), (6, .d (.str (bstr x53.1))), (8, .d (.int .i64 ((w64 ((w64 (x56 * (256 : Int))) + x57)).tmod (x53.1.length : Int)))), (9, .row 1 x60.1.length 0 x60.1.length), (10, .d (.int .i64 x60.2.1)), (14, .d (.int .i64 v70)), (16, .d (.int .i64 v99)), (117, .d (.bool (!(decide (x108 = x109)))))]) (objs := [.row 1 (x52.map eStr), .row 1 (x60.1.map eStr)]) rfl (by simp) rfl (by repeat' first | exact trivial | refine ⟨?_, ?_⟩) ⟨rfl, trivial, rfl, trivial, rfl, trivial, rfl, trivial, rfl, trivial, rfl, trivial, rfl, trivial, rfl, trivial, rfl, trivial, trivial⟩) ?_
                refine aw_cond rfl (fun hc110 => ?_) (fun hc110 => ?_)
                · have hc110 := not_t hc110
                  have h := if_f h hc110
                  refine aw_seq ?_
                  refine aw_region ?_
                  refine awl_val hτ rfl rfl rfl ?_
                  refine awl_nil ?_
                  refine aw_weak (weak_ofP [] (l := [(4, .d (.bool false))]) (objs := []) rfl (by simp) rfl (by repeat' first | exact trivial | refine ⟨?_, ?_⟩) ⟨rfl, trivial, trivial⟩) ?_
                  refine aw_ret ?_
                  have hr := Option.some.inj h
                  subst hr
                  exact ret_objs (.inr rfl) [] (objs' := []) (new := []) rfl (by simp) (by simp) rfl (by repeat' first | exact trivial | refine ⟨?_, ?_⟩) rfl rfl (by repeat' first | exact trivial | refine ⟨?_, ?_⟩) (fun _ => ⟨by simp [V.flat, V.flatA, V.flatC, D.flat], flat_nil⟩) ⟨rfl, rfl, rfl⟩
                · have hc110 := not_f hc110
                  have h := if_t h hc110
                  refine aw_skip ?_
                  refine aw_region ?_
                  refine awl_val hτ rfl rfl rfl ?_
                  refine awl_val hτ rfl rfl rfl ?_
                  refine awl_val hτ rfl rfl rfl ?_
                  refine awl_nil ?_
                  exact ⟨(m103, (w64 (v99 + (1 : Int)))), h, Nat.lt_succ_self m103, (weak_ofP [0, 1] (l := [(1, .d (.sl false (more_.map eIntu8))), (5, .row 0 x52.length 0 x52.length), (6, .d (.str (bstr x53.1))), (8, .d (.int .i64 ((w64 ((w64 (x56 * (256 : Int))) + x57)).tmod (x53.1.length : Int)))), (9, .row 1 x60.1.length 0 x60.1.length), (10, .d (.int .i64 x60.2.1)), (14, .d (.int .i64 v70)), (16, .d (.int .i64 (w64 (v99 + (1 : Int)))))]) (objs := [.row 1 (x52.map eStr), .row 1 (x60.1.map eStr)]) rfl (by simp) rfl (by repeat' first | exact trivial | refine ⟨?_, ?_⟩) ⟨rfl, trivial, rfl, trivial, rfl, trivial, rfl, trivial, rfl, trivial, rfl, trivial, rfl, trivial, rfl, trivial, trivial⟩)⟩
              · have h := if_f h hc105
                refine aw_exit ?_
                refine aw_weak (weak_ofP [] (l := [(1, .d (.sl false (more_.map eIntu8))), (6, .d (.str (bstr x53.1))), (8, .d (.int .i64 ((w64 ((w64 (x56 * (256 : Int))) + x57)).tmod (x53.1.length : Int)))), (10, .d (.int .i64 x60.2.1))]) (objs := []) rfl (by simp) rfl (by repeat' first | exact trivial | refine ⟨?_, ?_⟩) ⟨rfl, trivial, rfl, trivial, rfl, trivial, rfl, trivial, trivial⟩) ?_
                exact hk96 () h
          · refine aw_seq ?_
            refine aw_hk1 (ι := Bool) (fun v119 => St.of [(1, .d (.sl false (more_.map eIntu8))), (5, .row 0 x52.length 0 x52.length), (6, .d (.str (bstr x53.1))), (8, .d (.int .i64 ((w64 ((w64 (x56 * (256 : Int))) + x57)).tmod (x53.1.length : Int)))), (9, .row 1 x60.1.length 0 x60.1.length), (10, .d (.int .i64 x60.2.1)), (14, .d (.int .i64 v70)), (103, .d (.bool v119))] [.row 1 (x52.map eStr), .row 1 (x60.1.map eStr)] f5.ntmps 0) (fun v119 => m_laws_FnJournal_j5 n more_ x52 x53 x56 x57 x60 v70 v119 = some r) ?_ (fun hk121 => ?_)
            · rintro v119 h
              replace h : m_laws_FnJournal_j5 n more_ x52 x53 x56 x57 x60 v70 v119 = some r := h
              unfold m_laws_FnJournal_j5 at h
              refine aw_cond rfl (fun hc120 => ?_) (fun hc120 => ?_)
              · have h := if_bt h hc120
                refine aw_seq ?_
                refine aw_region ?_
                refine awl_val hτ rfl rfl rfl ?_
                refine awl_nil ?_
                refine aw_weak (weak_ofP [] (l := [(4, .d (.bool false))]) (objs := []) rfl (by simp) rfl (by repeat' first | exact trivial | refine ⟨?_, ?_⟩) ⟨rfl, trivial, trivial⟩) ?_
                refine aw_ret ?_
                have hr := Option.some.inj h
                subst hr
                exact ret_objs (.inr rfl) [] (objs' := []) (new := []) rfl (by simp) (by simp) rfl (by repeat' first | exact trivial | refine ⟨?_, ?_⟩) rfl rfl (by repeat' first | exact trivial | refine ⟨?_, ?_⟩) (fun _ => ⟨by simp [V.flat, V.flatA, V.flatC, D.flat], flat_nil⟩) ⟨rfl, rfl, rfl⟩
              · have h := if_bf h hc120
                refine aw_skip ?_
                refine aw_weak (weak_ofP [0, 1] (l := [(1, .d (.sl false (more_.map eIntu8))), (5, .row 0 x52.length 0 x52.length), (6, .d (.str (bstr x53.1))), (8, .d (.int .i64 ((w64 ((w64 (x56 * (256 : Int))) + x57)).tmod (x53.1.length : Int)))), (9, .row 1 x60.1.length 0 x60.1.length), (10, .d (.int .i64 x60.2.1)), (14, .d (.int .i64 v70))]) (objs := [.row 1 (x52.map eStr), .row 1 (x60.1.map eStr)]) rfl (by simp) rfl (by repeat' first | exact trivial | refine ⟨?_, ?_⟩) ⟨rfl, trivial, rfl, trivial, rfl, trivial, rfl, trivial, rfl, trivial, rfl, trivial, rfl, trivial, trivial⟩) ?_
                exact hk111 () h
            · refine aw_seq ?_
              refine aw_region ?_
              refine awl_val hτ rfl rfl rfl ?_
              refine awl_val hτ rfl rfl rfl ?_
              refine awl_val hτ rfl rfl rfl ?_
              refine awl_split 78 rfl (fun hb122 => ?_) (fun hb122 => ?_)
              · have hb122 := not_t hb122
                have h := if_bf h hb122
                refine awl_skip rfl rfl ?_
                refine awl_skip rfl rfl ?_
                refine awl_val hτ rfl rfl rfl ?_
                refine awl_val hτ rfl rfl rfl ?_
                refine awl_skip rfl rfl ?_
                refine awl_skip rfl rfl ?_
                refine awl_skip rfl rfl ?_
                refine awl_skip rfl rfl ?_
                refine awl_val hτ rfl rfl rfl ?_
                refine awl_weak (weak_ofP [0, 1] (l := [(1, .d (.sl false (more_.map eIntu8))), (5, .row 0 x52.length 0 x52.length), (6, .d (.str (bstr x53.1))), (8, .d (.int .i64 ((w64 ((w64 (x56 * (256 : Int))) + x57)).tmod (x53.1.length : Int)))), (9, .row 1 x60.1.length 0 x60.1.length), (10, .d (.int .i64 x60.2.1)), (12, .d (.str (bstr x61.1))), (14, .d (.int .i64 v70)), (87, .d (.bool true))]) (objs := [.row 1 (x52.map eStr), .row 1 (x60.1.map eStr)]) rfl (by simp) rfl (by repeat' first | exact trivial | refine ⟨?_, ?_⟩) ⟨rfl, trivial, rfl, trivial, rfl, trivial, rfl, trivial, rfl, trivial, rfl, trivial, rfl, trivial, rfl, trivial, rfl, trivial, trivial⟩) ?_
                refine awl_val hτ rfl rfl rfl ?_
                refine awl_skip rfl rfl ?_
                refine awl_skip rfl rfl ?_
                refine awl_val hτ rfl rfl rfl ?_
                refine awl_val hτ rfl rfl rfl ?_
                refine awl_skip rfl rfl ?_
                refine awl_skip rfl rfl ?_
                refine awl_skip rfl rfl ?_
                refine awl_val hτ rfl rfl rfl ?_
                refine awl_val hτ rfl rfl rfl ?_
                refine awl_skip rfl rfl ?_
                refine awl_skip rfl rfl ?_
                refine awl_weak (weak_ofP [0, 1] (l := [(1, .d (.sl false (more_.map eIntu8))), (5, .row 0 x52.length 0 x52.length), (6, .d (.str (bstr x53.1))), (8, .d (.int .i64 ((w64 ((w64 (x56 * (256 : Int))) + x57)).tmod (x53.1.length : Int)))), (9, .row 1 x60.1.length 0 x60.1.length), (10, .d (.int .i64 x60.2.1)), (14, .d (.int .i64 v70)), (97, .d (.bool true)), (98, .und), (99, .und)]) (objs := [.row 1 (x52.map eStr), .row 1 (x60.1.map eStr)]) rfl (by simp) rfl (by repeat' first | exact trivial | refine ⟨?_, ?_⟩) ⟨rfl, trivial, rfl, trivial, rfl, trivial, rfl, trivial, rfl, trivial, rfl, trivial, rfl, trivial, rfl, trivial, rfl, trivial, rfl, trivial, trivial⟩) ?_
                refine awl_skip rfl rfl ?_
                refine awl_skip rfl rfl ?_
                refine awl_skip rfl rfl ?_
                refine awl_val hτ rfl rfl rfl ?_
                refine awl_nil ?_
                refine aw_weak (weak_ofP [0, 1] (l := [(1, .d (.sl false (more_.map eIntu8))), (5, .row 0 x52.length 0 x52.length), (6, .d (.str (bstr x53.1))), (8, .d (.int .i64 ((w64 ((w64 (x56 * (256 : Int))) + x57)).tmod (x53.1.length : Int)))), (9, .row 1 x60.1.length 0 x60.1.length), (10, .d (.int .i64 x60.2.1)), (14, .d (.int .i64 v70)), (103, .d (.bool true))]) (objs := [.row 1 (x52.map eStr), .row 1 (x60.1.map eStr)]) rfl (by simp) rfl (by repeat' first | exact trivial | refine ⟨?_, ?_⟩) ⟨rfl, trivial, rfl, trivial, rfl, trivial, rfl, trivial, rfl, trivial, rfl, trivial, rfl, trivial, rfl, trivial, trivial⟩) ?_
                exact hk121 true h
              · have hb122 := not_f hb122
                have h := if_bt h hb122
                refine awl_val hτ rfl rfl rfl ?_
                refine awl_val hτ rfl rfl rfl ?_
                refine awl_val hτ rfl rfl rfl ?_
                refine awl_val hτ rfl rfl rfl ?_
                refine awl_split 82 rfl (fun hb123 => ?_) (fun hb123 => ?_)
                · have hb123 := not_t hb123
                  have h := if_bf h hb123
                  refine awl_skip rfl rfl ?_
                  refine awl_skip rfl rfl ?_
                  refine awl_skip rfl rfl ?_
                  refine awl_skip rfl rfl ?_
                  refine awl_val hτ rfl rfl rfl ?_
                  refine awl_weak (weak_ofP [0, 1] (l := [(1, .d (.sl false (more_.map eIntu8))), (5, .row 0 x52.length 0 x52.length), (6, .d (.str (bstr x53.1))), (8, .d (.int .i64 ((w64 ((w64 (x56 * (256 : Int))) + x57)).tmod (x53.1.length : Int)))), (9, .row 1 x60.1.length 0 x60.1.length), (10, .d (.int .i64 x60.2.1)), (12, .d (.str (bstr x61.1))), (14, .d (.int .i64 v70)), (87, .d (.bool true))]) (objs := [.row 1 (x52.map eStr), .row 1 (x60.1.map eStr)]) rfl (by simp) rfl (by repeat' first | exact trivial | refine ⟨?_, ?_⟩) ⟨rfl, trivial, rfl, trivial, rfl, trivial, rfl, trivial, rfl, trivial, rfl, trivial, rfl, trivial, rfl, trivial, rfl, trivial, trivial⟩) ?_
                  refine awl_val hτ rfl rfl rfl ?_
                  refine awl_skip rfl rfl ?_
                  refine awl_skip rfl rfl ?_
                  refine awl_val hτ rfl rfl rfl ?_
                  refine awl_val hτ rfl rfl rfl ?_
                  refine awl_skip rfl rfl ?_
                  refine awl_skip rfl rfl ?_
                  refine awl_skip rfl rfl ?_
                  refine awl_val hτ rfl rfl rfl ?_
                  refine awl_val hτ rfl rfl rfl ?_
                  refine awl_skip rfl rfl ?_
                  refine awl_skip rfl rfl ?_
                  refine awl_weak (weak_ofP [0, 1] (l := [(1, .d (.sl false (more_.map eIntu8))), (5, .row 0 x52.length 0 x52.length), (6, .d (.str (bstr x53.1))), (8, .d (.int .i64 ((w64 ((w64 (x56 * (256 : Int))) + x57)).tmod (x53.1.length : Int)))), (9, .row 1 x60.1.length 0 x60.1.length), (10, .d (.int .i64 x60.2.1)), (14, .d (.int .i64 v70)), (97, .d (.bool true)), (98, .und), (99, .und)]) (objs := [.row 1 (x52.map eStr), .row 1 (x60.1.map eStr)]) rfl (by simp) rfl (by repeat' first | exact trivial | refine ⟨?_, ?_⟩) ⟨rfl, trivial, rfl, trivial, rfl, trivial, rfl, trivial, rfl, trivial, rfl, trivial, rfl, trivial, rfl, trivial, rfl, trivial, rfl, trivial, trivial⟩) ?_
                  refine awl_skip rfl rfl ?_
                  refine awl_skip rfl rfl ?_
                  refine awl_skip rfl rfl ?_
                  refine awl_val hτ rfl rfl rfl ?_
                  refine awl_nil ?_
                  refine aw_weak (weak_ofP [0, 1] (l := [(1, .d (.sl false (more_.map eIntu8))), (5, .row 0 x52.length 0 x52.length), (6, .d (.str (bstr x53.1))), (8, .d (.int .i64 ((w64 ((w64 (x56 * (256 : Int))) + x57)).tmod (x53.1.length : Int)))), (9, .row 1 x60.1.length 0 x60.1.length), (10, .d (.int .i64 x60.2.1)), (14, .d (.int .i64 v70)), (103, .d (.bool true))]) (objs := [.row 1 (x52.map eStr), .row 1 (x60.1.map eStr)]) rfl (by simp) rfl (by repeat' first | exact trivial | refine ⟨?_, ?_⟩) ⟨rfl, trivial, rfl, trivial, rfl, trivial, rfl, trivial, rfl, trivial, rfl, trivial, rfl, trivial, rfl, trivial, trivial⟩) ?_
                  exact hk121 true h
                · have hb123 := not_f hb123
                  have h := if_bt h hb123
                  refine awl_val hτ rfl rfl rfl ?_
                  refine awl_need hτ rfl rfl rfl (len_map _) ?_
                  refine awl_val hτ rfl rfl rfl ?_
                  refine awl_val hτ (v := .d (.bool (!(decide ((x60.1.length : Int) = v70))))) rfl rfl (or_ine _ _) ?_
                  refine awl_val hτ rfl rfl rfl ?_
                  refine awl_weak (weak_ofP [0, 1] (l := [(1, .d (.sl false (more_.map eIntu8))), (5, .row 0 x52.length 0 x52.length), (6, .d (.str (bstr x53.1))), (8, .d (.int .i64 ((w64 ((w64 (x56 * (256 : Int))) + x57)).tmod (x53.1.length : Int)))), (9, .row 1 x60.1.length 0 x60.1.length), (10, .d (.int .i64 x60.2.1)), (12, .d (.str (bstr x61.1))), (14, .d (.int .i64 v70)), (87, .d (.bool (!(decide ((x60.1.length : Int) = v70)))))]) (objs := [.row 1 (x52.map eStr), .row 1 (x60.1.map eStr)]) rfl (by simp) rfl (by repeat' first | exact trivial | refine ⟨?_, ?_⟩) ⟨rfl, trivial, rfl, trivial, rfl, trivial, rfl, trivial, rfl, trivial, rfl, trivial, rfl, trivial, rfl, trivial, rfl, trivial, trivial⟩) ?_
                  refine awl_val hτ rfl rfl rfl ?_
                  refine awl_split 88 rfl (fun hb124 => ?_) (fun hb124 => ?_)
                  · have hb124 := not_t hb124
                    have h := if_f h hb124
                    refine awl_skip rfl rfl ?_
                    refine awl_skip rfl rfl ?_
                    refine awl_val hτ rfl rfl rfl ?_
                    refine awl_val hτ rfl rfl rfl ?_
                    refine awl_skip rfl rfl ?_
                    refine awl_skip rfl rfl ?_
                    refine awl_skip rfl rfl ?_
                    refine awl_val hτ rfl rfl rfl ?_
                    refine awl_val hτ rfl rfl rfl ?_
                    refine awl_skip rfl rfl ?_
                    refine awl_skip rfl rfl ?_
                    refine awl_weak (weak_ofP [0, 1] (l := [(1, .d (.sl false (more_.map eIntu8))), (5, .row 0 x52.length 0 x52.length), (6, .d (.str (bstr x53.1))), (8, .d (.int .i64 ((w64 ((w64 (x56 * (256 : Int))) + x57)).tmod (x53.1.length : Int)))), (9, .row 1 x60.1.length 0 x60.1.length), (10, .d (.int .i64 x60.2.1)), (14, .d (.int .i64 v70)), (97, .d (.bool true)), (98, .und), (99, .und)]) (objs := [.row 1 (x52.map eStr), .row 1 (x60.1.map eStr)]) rfl (by simp) rfl (by repeat' first | exact trivial | refine ⟨?_, ?_⟩) ⟨rfl, trivial, rfl, trivial, rfl, trivial, rfl, trivial, rfl, trivial, rfl, trivial, rfl, trivial, rfl, trivial, rfl, trivial, rfl, trivial, trivial⟩) ?_
                    refine awl_skip rfl rfl ?_
                    refine awl_skip rfl rfl ?_
                    refine awl_skip rfl rfl ?_
                    refine awl_val hτ rfl rfl rfl ?_
                    refine awl_nil ?_
                    refine aw_weak (weak_ofP [0, 1] (l := [(1, .d (.sl false (more_.map eIntu8))), (5, .row 0 x52.length 0 x52.length), (6, .d (.str (bstr x53.1))), (8, .d (.int .i64 ((w64 ((w64 (x56 * (256 : Int))) + x57)).tmod (x53.1.length : Int)))), (9, .row 1 x60.1.length 0 x60.1.length), (10, .d (.int .i64 x60.2.1)), (14, .d (.int .i64 v70)), (103, .d (.bool true))]) (objs := [.row 1 (x52.map eStr), .row 1 (x60.1.map eStr)]) rfl (by simp) rfl (by repeat' first | exact trivial | refine ⟨?_, ?_⟩) ⟨rfl, trivial, rfl, trivial, rfl, trivial, rfl, trivial, rfl, trivial, rfl, trivial, rfl, trivial, rfl, trivial, trivial⟩) ?_
                    exact hk121 true h
                  · have hb124 := not_f hb124
                    have h := if_t h hb124
                    refine awl_val hτ rfl rfl rfl ?_
                    refine awl_val hτ rfl rfl rfl ?_
                    refine awl_val hτ rfl rfl rfl ?_
                    refine awl_val hτ rfl rfl rfl ?_
                    refine awl_split 92 rfl (fun hb125 => ?_) (fun hb125 => ?_)
                    · have h := if_t h hb125
                      refine awl_skip rfl rfl ?_
                      refine awl_skip rfl rfl ?_
                      refine awl_skip rfl rfl ?_
                      refine awl_val hτ rfl rfl rfl ?_
                      refine awl_val hτ rfl rfl rfl ?_
                      refine awl_skip rfl rfl ?_
                      refine awl_skip rfl rfl ?_
                      refine awl_weak (weak_ofP [0, 1] (l := [(1, .d (.sl false (more_.map eIntu8))), (5, .row 0 x52.length 0 x52.length), (6, .d (.str (bstr x53.1))), (8, .d (.int .i64 ((w64 ((w64 (x56 * (256 : Int))) + x57)).tmod (x53.1.length : Int)))), (9, .row 1 x60.1.length 0 x60.1.length), (10, .d (.int .i64 x60.2.1)), (14, .d (.int .i64 v70)), (97, .d (.bool true)), (98, .und), (99, .und)]) (objs := [.row 1 (x52.map eStr), .row 1 (x60.1.map eStr)]) rfl (by simp) rfl (by repeat' first | exact trivial | refine ⟨?_, ?_⟩) ⟨rfl, trivial, rfl, trivial, rfl, trivial, rfl, trivial, rfl, trivial, rfl, trivial, rfl, trivial, rfl, trivial, rfl, trivial, rfl, trivial, trivial⟩) ?_
                      refine awl_skip rfl rfl ?_
                      refine awl_skip rfl rfl ?_
                      refine awl_skip rfl rfl ?_
                      refine awl_val hτ rfl rfl rfl ?_
                      refine awl_nil ?_
                      refine aw_weak (weak_ofP [0, 1] (l := [(1, .d (.sl false (more_.map eIntu8))), (5, .row 0 x52.length 0 x52.length), (6, .d (.str (bstr x53.1))), (8, .d (.int .i64 ((w64 ((w64 (x56 * (256 : Int))) + x57)).tmod (x53.1.length : Int)))), (9, .row 1 x60.1.length 0 x60.1.length), (10, .d (.int .i64 x60.2.1)), (14, .d (.int .i64 v70)), (103, .d (.bool true))]) (objs := [.row 1 (x52.map eStr), .row 1 (x60.1.map eStr)]) rfl (by simp) rfl (by repeat' first | exact trivial | refine ⟨?_, ?_⟩) ⟨rfl, trivial, rfl, trivial, rfl, trivial, rfl, trivial, rfl, trivial, rfl, trivial, rfl, trivial, rfl, trivial, trivial⟩) ?_
                      exact hk121 true h
                    · have h := if_f h hb125
                      refine awl_val hτ rfl rfl rfl ?_
                      refine awl_val hτ rfl rfl rfl ?_
                      refine awl_val hτ rfl rfl rfl ?_
                      refine awl_val hτ rfl rfl rfl ?_
                      refine awl_val hτ rfl rfl rfl ?_
                      refine awl_split 97 rfl (fun hb126 => ?_) (fun hb126 => ?_)
                      · have h := if_t h hb126
                        refine awl_skip rfl rfl ?_
                        refine awl_skip rfl rfl ?_
                        refine awl_weak (weak_ofP [0, 1] (l := [(1, .d (.sl false (more_.map eIntu8))), (5, .row 0 x52.length 0 x52.length), (6, .d (.str (bstr x53.1))), (8, .d (.int .i64 ((w64 ((w64 (x56 * (256 : Int))) + x57)).tmod (x53.1.length : Int)))), (9, .row 1 x60.1.length 0 x60.1.length), (10, .d (.int .i64 x60.2.1)), (14, .d (.int .i64 v70)), (97, .d (.bool true)), (98, .und), (99, .und)]) (objs := [.row 1 (x52.map eStr), .row 1 (x60.1.map eStr)]) rfl (by simp) rfl (by repeat' first | exact trivial | refine ⟨?_, ?_⟩) ⟨rfl, trivial, rfl, trivial, rfl, trivial, rfl, trivial, rfl, trivial, rfl, trivial, rfl, trivial, rfl, trivial, rfl, trivial, rfl, trivial, trivial⟩) ?_
                        refine awl_skip rfl rfl ?_
                        refine awl_skip rfl rfl ?_
                        refine awl_skip rfl rfl ?_
                        refine awl_val hτ rfl rfl rfl ?_
                        refine awl_nil ?_
                        refine aw_weak (weak_ofP [0, 1] (l := [(1, .d (.sl false (more_.map eIntu8))), (5, .row 0 x52.length 0 x52.length), (6, .d (.str (bstr x53.1))), (8, .d (.int .i64 ((w64 ((w64 (x56 * (256 : Int))) + x57)).tmod (x53.1.length : Int)))), (9, .row 1 x60.1.length 0 x60.1.length), (10, .d (.int .i64 x60.2.1)), (14, .d (.int .i64 v70)), (103, .d (.bool true))]) (objs := [.row 1 (x52.map eStr), .row 1 (x60.1.map eStr)]) rfl (by simp) rfl (by repeat' first | exact trivial | refine ⟨?_, ?_⟩) ⟨rfl, trivial, rfl, trivial, rfl, trivial, rfl, trivial, rfl, trivial, rfl, trivial, rfl, trivial, rfl, trivial, trivial⟩) ?_
                        exact hk121 true h
                      · have h := if_f h hb126
                        refine awl_val hτ rfl rfl rfl ?_
                        refine awl_val hτ rfl rfl rfl ?_
                        refine awl_weak (weak_ofP [0, 1] (l := [(1, .d (.sl false (more_.map eIntu8))), (5, .row 0 x52.length 0 x52.length), (6, .d (.str (bstr x53.1))), (8, .d (.int .i64 ((w64 ((w64 (x56 * (256 : Int))) + x57)).tmod (x53.1.length : Int)))), (9, .row 1 x60.1.length 0 x60.1.length), (10, .d (.int .i64 x60.2.1)), (14, .d (.int .i64 v70)), (97, .d (.bool false)), (98, .d (.str (bstr x61.1))), (99, .d (.str (bstr x53.1)))]) (objs := [.row 1 (x52.map eStr), .row 1 (x60.1.map eStr)]) rfl (by simp) rfl (by repeat' first | exact trivial | refine ⟨?_, ?_⟩) ⟨rfl, trivial, rfl, trivial, rfl, trivial, rfl, trivial, rfl, trivial, rfl, trivial, rfl, trivial, rfl, trivial, rfl, trivial, rfl, trivial, trivial⟩) ?_
                        refine awl_val hτ rfl rfl rfl ?_
                        refine grd_elim h fun hg127 h => ?_
                        refine awl_need hτ (v := .d (.str (bstr (sub x53.1 (0 : Int) x60.2.1)))) rfl rfl (Eq.trans rfl (or_ssub _ _ _)) hg127 ?_
                        refine awl_val hτ (v := .d (.bool (!(decide (x61.1 = (sub x53.1 (0 : Int) x60.2.1)))))) rfl rfl (or_sne _ _) ?_
                        refine awl_val hτ rfl rfl rfl ?_
                        refine awl_nil ?_
                        refine aw_weak (weak_ofP [0, 1] (l := [(1, .d (.sl false (more_.map eIntu8))), (5, .row 0 x52.length 0 x52.length), (6, .d (.str (bstr x53.1))), (8, .d (.int .i64 ((w64 ((w64 (x56 * (256 : Int))) + x57)).tmod (x53.1.length : Int)))), (9, .row 1 x60.1.length 0 x60.1.length), (10, .d (.int .i64 x60.2.1)), (14, .d (.int .i64 v70)), (103, .d (.bool (!(decide (x61.1 = (sub x53.1 (0 : Int) x60.2.1))))))]) (objs := [.row 1 (x52.map eStr), .row 1 (x60.1.map eStr)]) rfl (by simp) rfl (by repeat' first | exact trivial | refine ⟨?_, ?_⟩) ⟨rfl, trivial, rfl, trivial, rfl, trivial, rfl, trivial, rfl, trivial, rfl, trivial, rfl, trivial, rfl, trivial, trivial⟩) ?_
                        exact hk121 (!(decide (x61.1 = (sub x53.1 (0 : Int) x60.2.1)))) h
        · refine aw_seq ?_
          refine aw_seq ?_
          refine aw_region ?_
          refine awl_val hτ rfl rfl rfl ?_
          refine awl_nil ?_
          refine aw_block ?_
          refine aw_loop (ι := Nat × Int × Int) (fun (m137, v131, v132) => St.of [(1, .d (.sl false (more_.map eIntu8))), (5, .row 0 x52.length 0 x52.length), (6, .d (.str (bstr x53.1))), (8, .d (.int .i64 ((w64 ((w64 (x56 * (256 : Int))) + x57)).tmod (x53.1.length : Int)))), (9, .row 1 x60.1.length 0 x60.1.length), (10, .d (.int .i64 x60.2.1)), (11, .d (.bool x60.2.2)), (12, .d (.str (bstr x61.1))), (13, .d (.bool x61.2)), (14, .d (.int .i64 v131)), (15, .d (.int .i64 v132))] [.row 1 (x52.map eStr), .row 1 (x60.1.map eStr)] f5.ntmps 0) (fun (m137, v131, v132) => m_laws_FnJournal_l6 n more_ x52 x53 x56 x57 x60 x61 m137 v131 v132 = some r) (fun x => x.1) (n, (0 : Int), (0 : Int)) h (weak_ofP [0, 1] (l := [(1, .d (.sl false (more_.map eIntu8))), (5, .row 0 x52.length 0 x52.length), (6, .d (.str (bstr x53.1))), (8, .d (.int .i64 ((w64 ((w64 (x56 * (256 : Int))) + x57)).tmod (x53.1.length : Int)))), (9, .row 1 x60.1.length 0 x60.1.length), (10, .d (.int .i64 x60.2.1)), (11, .d (.bool x60.2.2)), (12, .d (.str (bstr x61.1))), (13, .d (.bool x61.2)), (14, .d (.int .i64 (0 : Int))), (15, .d (.int .i64 (0 : Int)))]) (objs := [.row 1 (x52.map eStr), .row 1 (x60.1.map eStr)]) rfl (by simp) rfl (by repeat' first | exact trivial | refine ⟨?_, ?_⟩) ⟨rfl, trivial, rfl, trivial, rfl, trivial, rfl, trivial, rfl, trivial, rfl, trivial, rfl, trivial, rfl, trivial, rfl, trivial, rfl, trivial, rfl, trivial, trivial⟩) ?_
          rintro ⟨m137, v131, v132⟩ h
          replace h : m_laws_FnJournal_l6 n more_ x52 x53 x56 x57 x60 x61 m137 v131 v132 = some r := h
          rcases m137 with _ | m137
          · rw [m_laws_FnJournal_l6] at h; cases h
          rw [m_laws_FnJournal_l6] at h
          refine aw_seq ?_
          refine aw_seq ?_
          refine aw_region ?_
          refine awl_val hτ rfl rfl rfl ?_
          refine awl_val hτ rfl rfl rfl ?_
          refine awl_val hτ rfl rfl rfl ?_
          refine awl_nil ?_
          refine aw_cond rfl (fun hc139 => ?_) (fun hc139 => ?_)
          · have h := if_t h hc139
            refine aw_skip ?_
            refine aw_hk1 (ι := Int) (fun v142 => St.of [(1, .d (.sl false (more_.map eIntu8))), (5, .row 0 x52.length 0 x52.length), (6, .d (.str (bstr x53.1))), (8, .d (.int .i64 ((w64 ((w64 (x56 * (256 : Int))) + x57)).tmod (x53.1.length : Int)))), (9, .row 1 x60.1.length 0 x60.1.length), (10, .d (.int .i64 x60.2.1)), (11, .d (.bool x60.2.2)), (12, .d (.str (bstr x61.1))), (13, .d (.bool x61.2)), (14, .d (.int .i64 v142)), (15, .d (.int .i64 v132))] [.row 1 (x52.map eStr), .row 1 (x60.1.map eStr)] f5.ntmps 0) (fun v142 => m_laws_FnJournal_j7 n (m_laws_FnJournal_l6 n more_ x52 x53 x56 x57 x60 x61 m137) v132 v142 = some r) ?_ (fun hk143 => ?_)
            · rintro v142 h
              replace h : m_laws_FnJournal_j7 n (m_laws_FnJournal_l6 n more_ x52 x53 x56 x57 x60 x61 m137) v132 v142 = some r := h
              unfold m_laws_FnJournal_j7 at h
              refine aw_region ?_
              refine awl_val hτ rfl rfl rfl ?_
              refine awl_val hτ rfl rfl rfl ?_
              refine awl_val hτ rfl rfl rfl ?_
              refine awl_nil ?_
              exact ⟨(m137, v142, (w64 (v132 + (1 : Int)))), h, Nat.lt_succ_self m137, (weak_ofP [0, 1] (l := [(1, .d (.sl false (more_.map eIntu8))), (5, .row 0 x52.length 0 x52.length), (6, .d (.str (bstr x53.1))), (8, .d (.int .i64 ((w64 ((w64 (x56 * (256 : Int))) + x57)).tmod (x53.1.length : Int)))), (9, .row 1 x60.1.length 0 x60.1.length), (10, .d (.int .i64 x60.2.1)), (11, .d (.bool x60.2.2)), (12, .d (.str (bstr x61.1))), (13, .d (.bool x61.2)), (14, .d (.int .i64 v142)), (15, .d (.int .i64 (w64 (v132 + (1 : Int)))))]) (objs := [.row 1 (x52.map eStr), .row 1 (x60.1.map eStr)]) rfl (by simp) rfl (by repeat' first | exact trivial | refine ⟨?_, ?_⟩) ⟨rfl, trivial, rfl, trivial, rfl, trivial, rfl, trivial, rfl, trivial, rfl, trivial, rfl, trivial, rfl, trivial, rfl, trivial, rfl, trivial, rfl, trivial, trivial⟩)⟩
            · refine aw_seq ?_
              refine aw_block ?_
              refine aw_seq ?_
              refine aw_region ?_
              refine awl_val hτ rfl rfl rfl ?_
              refine awl_val hτ rfl rfl rfl ?_
              refine bnd_elim h fun x144 hx144 h => ?_
              refine awl_need hτ (v := .d (.int .u8 (x144.toNat : Int))) rfl rfl (Eq.trans rfl (or_sidx hx144)) (sidx_need hx144) ?_
              refine awl_val hτ (v := .d (.bool (decide ((x144.toNat : Int) = (10 : Int))))) rfl rfl (or_ieq _ _) ?_
              refine awl_nil ?_
              refine aw_weak (weak_ofP [0, 1] (l := [(1, .d (.sl false (more_.map eIntu8))), (5, .row 0 x52.length 0 x52.length), (6, .d (.str (bstr x53.1))), (8, .d (.int .i64 ((w64 ((w64 (x56 * (256 : Int))) + x57)).tmod (x53.1.length : Int)))), (9, .row 1 x60.1.length 0 x60.1.length), (10, .d (.int .i64 x60.2.1)), (11, .d (.bool x60.2.2)), (12, .d (.str (bstr x61.1))), (13, .d (.bool x61.2)), (14, .d (.int .i64 v131)), (15, .d (.int .i64 v132)), (73, .d (.bool (decide ((x144.toNat : Int) = (10 : Int)))))]) (objs := [.row 1 (x52.map eStr), .row 1 (x60.1.map eStr)]) rfl (by simp) rfl (by repeat' first | exact trivial | refine ⟨?_, ?_⟩) ⟨rfl, trivial, rfl, trivial, rfl, trivial, rfl, trivial, rfl, trivial, rfl, trivial, rfl, trivial, rfl, trivial, rfl, trivial, rfl, trivial, rfl, trivial, rfl, trivial, trivial⟩) ?_
              refine aw_cond rfl (fun hc145 => ?_) (fun hc145 => ?_)
              · have h := if_t h hc145
                refine aw_region ?_
                refine awl_val hτ rfl rfl rfl ?_
                refine awl_val hτ rfl rfl rfl ?_
                refine awl_val hτ rfl rfl rfl ?_
                refine awl_nil ?_
                refine aw_weak (weak_ofP [0, 1] (l := [(1, .d (.sl false (more_.map eIntu8))), (5, .row 0 x52.length 0 x52.length), (6, .d (.str (bstr x53.1))), (8, .d (.int .i64 ((w64 ((w64 (x56 * (256 : Int))) + x57)).tmod (x53.1.length : Int)))), (9, .row 1 x60.1.length 0 x60.1.length), (10, .d (.int .i64 x60.2.1)), (11, .d (.bool x60.2.2)), (12, .d (.str (bstr x61.1))), (13, .d (.bool x61.2)), (14, .d (.int .i64 (w64 (v131 + (1 : Int))))), (15, .d (.int .i64 v132))]) (objs := [.row 1 (x52.map eStr), .row 1 (x60.1.map eStr)]) rfl (by simp) rfl (by repeat' first | exact trivial | refine ⟨?_, ?_⟩) ⟨rfl, trivial, rfl, trivial, rfl, trivial, rfl, trivial, rfl, trivial, rfl, trivial, rfl, trivial, rfl, trivial, rfl, trivial, rfl, trivial, rfl, trivial, trivial⟩) ?_
                exact hk143 (w64 (v131 + (1 : Int))) h
              · have h := if_f h hc145
                refine aw_skip ?_
                refine aw_weak (weak_ofP [0, 1] (l := [(1, .d (.sl false (more_.map eIntu8))), (5, .row 0 x52.length 0 x52.length), (6, .d (.str (bstr x53.1))), (8, .d (.int .i64 ((w64 ((w64 (x56 * (256 : Int))) + x57)).tmod (x53.1.length : Int)))), (9, .row 1 x60.1.length 0 x60.1.length), (10, .d (.int .i64 x60.2.1)), (11, .d (.bool x60.2.2)), (12, .d (.str (bstr x61.1))), (13, .d (.bool x61.2)), (14, .d (.int .i64 v131)), (15, .d (.int .i64 v132))]) (objs := [.row 1 (x52.map eStr), .row 1 (x60.1.map eStr)]) rfl (by simp) rfl (by repeat' first | exact trivial | refine ⟨?_, ?_⟩) ⟨rfl, trivial, rfl, trivial, rfl, trivial, rfl, trivial, rfl, trivial, rfl, trivial, rfl, trivial, rfl, trivial, rfl, trivial, rfl, trivial, rfl, trivial, trivial⟩) ?_
                exact hk143 v131 h
          · have h := if_f h hc139
            refine aw_exit ?_
            refine aw_weak (weak_ofP [0, 1] (l := [(1, .d (.sl false (more_.map eIntu8))), (5, .row 0 x52.length 0 x52.length), (6, .d (.str (bstr x53.1))), (8, .d (.int .i64 ((w64 ((w64 (x56 * (256 : Int))) + x57)).tmod (x53.1.length : Int)))), (9, .row 1 x60.1.length 0 x60.1.length), (10, .d (.int .i64 x60.2.1)), (11, .d (.bool x60.2.2)), (12, .d (.str (bstr x61.1))), (13, .d (.bool x61.2)), (14, .d (.int .i64 v131))]) (objs := [.row 1 (x52.map eStr), .row 1 (x60.1.map eStr)]) rfl (by simp) rfl (by repeat' first | exact trivial | refine ⟨?_, ?_⟩) ⟨rfl, trivial, rfl, trivial, rfl, trivial, rfl, trivial, rfl, trivial, rfl, trivial, rfl, trivial, rfl, trivial, rfl, trivial, rfl, trivial, trivial⟩) ?_
            exact hk128 v131 h
theorem laws_FnJournal_ok (n : Nat) (code_ : List Int) (more_ : List Int) {r : Bool} (h : m_laws_FnJournal n code_ more_ = some r) : ACall prog false 5 [.d (.sl false (code_.map eIntu8)), .d (.sl false (more_.map eIntu8))] [] (fun v o new => v = .d (.bool r) ∧ o = [] ∧ new = []) := laws_FnJournal_ok_fr0 false n code_ more_ h
theorem laws_FnJournal_ok_fr (n : Nat) (code_ : List Int) (more_ : List Int) {r : Bool} (h : m_laws_FnJournal n code_ more_ = some r) : ACall prog true 5 [.d (.sl false (code_.map eIntu8)), .d (.sl false (more_.map eIntu8))] [] (fun v o new => v = .d (.bool r) ∧ o = [] ∧ new = []) := laws_FnJournal_ok_fr0 true n code_ more_ h

end Go.Proofs.YtdgkahieegcmeaaDoor.AWN
