/- Models and contracts, printed by program. -/
import Derived.Test.YtdgkahieegcmeaaDoorNumbersB
set_option linter.unusedVariables false
set_option linter.unusedSimpArgs false
set_option linter.unusedSectionVars false
set_option maxHeartbeats 2000000
namespace Go.Proofs.YtdgkahieegcmeaaDoor.AWN
open Go Go.Proofs.Tryd

def m_impl_NarrowComplex (n : Nat) (x_ : Cx) : Option Cx :=
  (fconv .f64 .f32 x_.re).bind fun x3 =>
  (fconv .f64 .f32 x_.im).bind fun x4 =>
  some (Cx.mk x3 x4)
theorem impl_NarrowComplex_ok_fr0 (fr : Bool) (n : Nat) (x_ : Cx) {r : Cx} (h : m_impl_NarrowComplex n x_ = some r) : ACall prog fr 26 [.d (.cx .f64 x_.re x_.im)] [] (fun v o new => v = .d (.cx .f32 r.re r.im) ∧ o = [] ∧ new = []) := by
  refine acall_of_aw hτ func26 rfl (by simp) (by simp) ?_
  unfold m_impl_NarrowComplex at h
  refine aw_seq ?_
  refine aw_region ?_
  refine awl_val hτ rfl rfl rfl ?_
  refine awl_nil ?_
  refine aw_seq ?_
  refine aw_region ?_
  refine awl_val hτ rfl rfl rfl ?_
  refine awl_val hτ rfl rfl rfl ?_
  refine bnd_elim h fun x3 hx3 h => ?_
  refine awl_val hτ (v := .d (.fl .f32 x3)) rfl rfl (conv_val hx3) ?_
  refine awl_val hτ rfl rfl rfl ?_
  refine awl_val hτ rfl rfl rfl ?_
  refine bnd_elim h fun x4 hx4 h => ?_
  refine awl_val hτ (v := .d (.fl .f32 x4)) rfl rfl (conv_val hx4) ?_
  refine awl_val hτ rfl rfl rfl ?_
  refine awl_val hτ rfl rfl rfl ?_
  refine awl_nil ?_
  refine aw_weak (weak_ofP [] (l := [(2, .d (.cx .f32 x3 x4))]) (objs := []) rfl (by simp) rfl (by repeat' first | exact trivial | refine ⟨?_, ?_⟩) ⟨rfl, trivial, trivial⟩) ?_
  refine aw_ret ?_
  have hr := Option.some.inj h
  subst hr
  exact ret_objs (.inr rfl) [] (objs' := []) (new := []) rfl (by simp) (by simp) rfl (by repeat' first | exact trivial | refine ⟨?_, ?_⟩) rfl rfl (by repeat' first | exact trivial | refine ⟨?_, ?_⟩) (fun _ => ⟨by simp [V.flat, V.flatA, V.flatC, D.flat], flat_nil⟩) ⟨rfl, rfl, rfl⟩
theorem impl_NarrowComplex_ok (n : Nat) (x_ : Cx) {r : Cx} (h : m_impl_NarrowComplex n x_ = some r) : ACall prog false 26 [.d (.cx .f64 x_.re x_.im)] [] (fun v o new => v = .d (.cx .f32 r.re r.im) ∧ o = [] ∧ new = []) := impl_NarrowComplex_ok_fr0 false n x_ h
theorem impl_NarrowComplex_ok_fr (n : Nat) (x_ : Cx) {r : Cx} (h : m_impl_NarrowComplex n x_ = some r) : ACall prog true 26 [.d (.cx .f64 x_.re x_.im)] [] (fun v o new => v = .d (.cx .f32 r.re r.im) ∧ o = [] ∧ new = []) := impl_NarrowComplex_ok_fr0 true n x_ h

def m_impl_SameNumber_j1 (n : Nat) (a_ : Nat) (b_ : Nat) : Option Bool :=
  grd (isnan .f32 a_ = false) <|
  grd (isnan .f32 b_ = false) <|
  some (decide ((a_ : Int) = (b_ : Int)))
def m_impl_SameNumber_j2 (n : Nat) (a_ : Nat) (b_ : Nat) (v26 : Bool) : Option Bool :=
  if v26 = true then
    (m_impl_isNaN n a_).bind fun x28 =>
    if x28 = true then
      (m_impl_isNaN n b_).bind fun x30 =>
      some x30
    else
      some false
  else
    m_impl_SameNumber_j1 n a_ b_
def m_impl_SameNumber (n : Nat) (a_ : Nat) (b_ : Nat) : Option Bool :=
  (m_impl_isNaN n a_).bind fun x32 =>
  if x32 = true then
    m_impl_SameNumber_j2 n a_ b_ true
  else
    (m_impl_isNaN n b_).bind fun x34 =>
    m_impl_SameNumber_j2 n a_ b_ x34
theorem impl_SameNumber_ok_fr0 (fr : Bool) (n : Nat) (a_ : Nat) (b_ : Nat) {r : Bool} (h : m_impl_SameNumber n a_ b_ = some r) : ACall prog fr 66 [.d (.fl .f32 a_), .d (.fl .f32 b_)] [] (fun v o new => v = .d (.bool r) ∧ o = [] ∧ new = []) := by
  refine acall_of_aw hτ func66 rfl (by simp) (by simp) ?_
  unfold m_impl_SameNumber at h
  refine aw_seq ?_
  refine aw_region ?_
  refine awl_val hτ rfl rfl rfl ?_
  refine awl_nil ?_
  refine aw_hk1 (ι := Unit) (fun _ => St.of [(0, .d (.fl .f32 a_)), (1, .d (.fl .f32 b_))] [] f66.ntmps 0) (fun _ => m_impl_SameNumber_j1 n a_ b_ = some r) ?_ (fun hk21 => ?_)
  · rintro ⟨⟩ h
    replace h : m_impl_SameNumber_j1 n a_ b_ = some r := h
    unfold m_impl_SameNumber_j1 at h
    refine aw_seq ?_
    refine aw_region ?_
    refine awl_val hτ rfl rfl rfl ?_
    refine grd_elim h fun hg19 h => ?_
    refine awl_ext hτ rfl rfl rfl (ext62 hg19) ?_
    refine awl_val hτ rfl rfl rfl ?_
    refine grd_elim h fun hg20 h => ?_
    refine awl_ext hτ rfl rfl rfl (ext62 hg20) ?_
    refine awl_val hτ (v := .d (.bool (decide ((a_ : Int) = (b_ : Int))))) rfl rfl (or_ieq _ _) ?_
    refine awl_val hτ rfl rfl rfl ?_
    refine awl_nil ?_
    refine aw_weak (weak_ofP [] (l := [(4, .d (.bool (decide ((a_ : Int) = (b_ : Int)))))]) (objs := []) rfl (by simp) rfl (by repeat' first | exact trivial | refine ⟨?_, ?_⟩) ⟨rfl, trivial, trivial⟩) ?_
    refine aw_ret ?_
    have hr := Option.some.inj h
    subst hr
    exact ret_objs (.inr rfl) [] (objs' := []) (new := []) rfl (by simp) (by simp) rfl (by repeat' first | exact trivial | refine ⟨?_, ?_⟩) rfl rfl (by repeat' first | exact trivial | refine ⟨?_, ?_⟩) (fun _ => ⟨by simp [V.flat, V.flatA, V.flatC, D.flat], flat_nil⟩) ⟨rfl, rfl, rfl⟩
  · refine aw_seq ?_
    refine aw_hk1 (ι := Bool) (fun v26 => St.of [(0, .d (.fl .f32 a_)), (1, .d (.fl .f32 b_)), (10, .d (.bool v26))] [] f66.ntmps 0) (fun v26 => m_impl_SameNumber_j2 n a_ b_ v26 = some r) ?_ (fun hk31 => ?_)
    · rintro v26 h
      replace h : m_impl_SameNumber_j2 n a_ b_ v26 = some r := h
      unfold m_impl_SameNumber_j2 at h
      refine aw_cond rfl (fun hc27 => ?_) (fun hc27 => ?_)
      · have h := if_bt h hc27
        refine aw_seq ?_
        refine aw_region ?_
        refine awl_val hτ rfl rfl rfl ?_
        refine bnd_elim h fun x28 hx28 h => ?_
        refine awl_callP hτ false [] rfl rfl rfl (enterOk func61 rfl rfl) rfl rfl (by simp) ⟨trivial, trivial⟩ (by repeat' first | exact trivial | refine ⟨?_, ?_⟩) (impl_isNaN_ok n a_ hx28) ?_
        rintro r0 o0 n0 ⟨rfl, rfl, rfl⟩ -
        refine awl_val hτ rfl rfl rfl ?_
        refine awl_split 13 rfl (fun hb29 => ?_) (fun hb29 => ?_)
        · have h := if_bt h hb29
          refine awl_val hτ rfl rfl rfl ?_
          refine bnd_elim h fun x30 hx30 h => ?_
          refine awl_callP hτ false [] rfl rfl rfl (enterOk func61 rfl rfl) rfl rfl (by simp) ⟨trivial, trivial⟩ (by repeat' first | exact trivial | refine ⟨?_, ?_⟩) (impl_isNaN_ok n b_ hx30) ?_
          rintro r0 o0 n0 ⟨rfl, rfl, rfl⟩ -
          refine awl_val hτ rfl rfl rfl ?_
          refine awl_val hτ rfl rfl rfl ?_
          refine awl_nil ?_
          refine aw_weak (weak_ofP [] (l := [(4, .d (.bool x30))]) (objs := []) rfl (by simp) rfl (by repeat' first | exact trivial | refine ⟨?_, ?_⟩) ⟨rfl, trivial, trivial⟩) ?_
          refine aw_ret ?_
          have hr := Option.some.inj h
          subst hr
          exact ret_objs (.inr rfl) [] (objs' := []) (new := []) rfl (by simp) (by simp) rfl (by repeat' first | exact trivial | refine ⟨?_, ?_⟩) rfl rfl (by repeat' first | exact trivial | refine ⟨?_, ?_⟩) (fun _ => ⟨by simp [V.flat, V.flatA, V.flatC, D.flat], flat_nil⟩) ⟨rfl, rfl, rfl⟩
        · have h := if_bf h hb29
          refine awl_skip rfl rfl ?_
          refine awl_skip rfl rfl ?_
          refine awl_val hτ rfl rfl rfl ?_
          refine awl_val hτ rfl rfl rfl ?_
          refine awl_nil ?_
          refine aw_weak (weak_ofP [] (l := [(4, .d (.bool false))]) (objs := []) rfl (by simp) rfl (by repeat' first | exact trivial | refine ⟨?_, ?_⟩) ⟨rfl, trivial, trivial⟩) ?_
          refine aw_ret ?_
          have hr := Option.some.inj h
          subst hr
          exact ret_objs (.inr rfl) [] (objs' := []) (new := []) rfl (by simp) (by simp) rfl (by repeat' first | exact trivial | refine ⟨?_, ?_⟩) rfl rfl (by repeat' first | exact trivial | refine ⟨?_, ?_⟩) (fun _ => ⟨by simp [V.flat, V.flatA, V.flatC, D.flat], flat_nil⟩) ⟨rfl, rfl, rfl⟩
      · have h := if_bf h hc27
        refine aw_skip ?_
        refine aw_weak (weak_ofP [] (l := [(0, .d (.fl .f32 a_)), (1, .d (.fl .f32 b_))]) (objs := []) rfl (by simp) rfl (by repeat' first | exact trivial | refine ⟨?_, ?_⟩) ⟨rfl, trivial, rfl, trivial, trivial⟩) ?_
        exact hk21 () h
    · refine aw_seq ?_
      refine aw_region ?_
      refine awl_val hτ rfl rfl rfl ?_
      refine bnd_elim h fun x32 hx32 h => ?_
      refine awl_callP hτ false [] rfl rfl rfl (enterOk func61 rfl rfl) rfl rfl (by simp) ⟨trivial, trivial⟩ (by repeat' first | exact trivial | refine ⟨?_, ?_⟩) (impl_isNaN_ok n a_ hx32) ?_
      rintro r0 o0 n0 ⟨rfl, rfl, rfl⟩ -
      refine awl_val hτ rfl rfl rfl ?_
      refine awl_split 7 rfl (fun hb33 => ?_) (fun hb33 => ?_)
      · have h := if_bt h hb33
        refine awl_skip rfl rfl ?_
        refine awl_skip rfl rfl ?_
        refine awl_val hτ rfl rfl rfl ?_
        refine awl_nil ?_
        refine aw_weak (weak_ofP [] (l := [(0, .d (.fl .f32 a_)), (1, .d (.fl .f32 b_)), (10, .d (.bool true))]) (objs := []) rfl (by simp) rfl (by repeat' first | exact trivial | refine ⟨?_, ?_⟩) ⟨rfl, trivial, rfl, trivial, rfl, trivial, trivial⟩) ?_
        exact hk31 true h
      · have h := if_bf h hb33
        refine awl_val hτ rfl rfl rfl ?_
        refine bnd_elim h fun x34 hx34 h => ?_
        refine awl_callP hτ false [] rfl rfl rfl (enterOk func61 rfl rfl) rfl rfl (by simp) ⟨trivial, trivial⟩ (by repeat' first | exact trivial | refine ⟨?_, ?_⟩) (impl_isNaN_ok n b_ hx34) ?_
        rintro r0 o0 n0 ⟨rfl, rfl, rfl⟩ -
        refine awl_val hτ rfl rfl rfl ?_
        refine awl_nil ?_
        refine aw_weak (weak_ofP [] (l := [(0, .d (.fl .f32 a_)), (1, .d (.fl .f32 b_)), (10, .d (.bool x34))]) (objs := []) rfl (by simp) rfl (by repeat' first | exact trivial | refine ⟨?_, ?_⟩) ⟨rfl, trivial, rfl, trivial, rfl, trivial, trivial⟩) ?_
        exact hk31 x34 h
theorem impl_SameNumber_ok (n : Nat) (a_ : Nat) (b_ : Nat) {r : Bool} (h : m_impl_SameNumber n a_ b_ = some r) : ACall prog false 66 [.d (.fl .f32 a_), .d (.fl .f32 b_)] [] (fun v o new => v = .d (.bool r) ∧ o = [] ∧ new = []) := impl_SameNumber_ok_fr0 false n a_ b_ h
theorem impl_SameNumber_ok_fr (n : Nat) (a_ : Nat) (b_ : Nat) {r : Bool} (h : m_impl_SameNumber n a_ b_ = some r) : ACall prog true 66 [.d (.fl .f32 a_), .d (.fl .f32 b_)] [] (fun v o new => v = .d (.bool r) ∧ o = [] ∧ new = []) := impl_SameNumber_ok_fr0 true n a_ b_ h

def m_impl_SameComplex (n : Nat) (a_ : Cx) (b_ : Cx) : Option Bool :=
  (m_impl_SameNumber n a_.re b_.re).bind fun x5 =>
  if x5 = true then
    (m_impl_SameNumber n a_.im b_.im).bind fun x7 =>
    some x7
  else
    some false
theorem impl_SameComplex_ok_fr0 (fr : Bool) (n : Nat) (a_ : Cx) (b_ : Cx) {r : Bool} (h : m_impl_SameComplex n a_ b_ = some r) : ACall prog fr 25 [.d (.cx .f32 a_.re a_.im), .d (.cx .f32 b_.re b_.im)] [] (fun v o new => v = .d (.bool r) ∧ o = [] ∧ new = []) := by
  refine acall_of_aw hτ func25 rfl (by simp) (by simp) ?_
  unfold m_impl_SameComplex at h
  refine aw_seq ?_
  refine aw_region ?_
  refine awl_val hτ rfl rfl rfl ?_
  refine awl_nil ?_
  refine aw_seq ?_
  refine aw_region ?_
  refine awl_val hτ rfl rfl rfl ?_
  refine awl_val hτ rfl rfl rfl ?_
  refine awl_val hτ rfl rfl rfl ?_
  refine awl_val hτ rfl rfl rfl ?_
  refine bnd_elim h fun x5 hx5 h => ?_
  refine awl_callP hτ false [] rfl rfl rfl (enterOk func66 rfl rfl) rfl rfl (by simp) ⟨trivial, trivial, trivial⟩ (by repeat' first | exact trivial | refine ⟨?_, ?_⟩) (impl_SameNumber_ok n a_.re b_.re hx5) ?_
  rintro r0 o0 n0 ⟨rfl, rfl, rfl⟩ -
  refine awl_val hτ rfl rfl rfl ?_
  refine awl_split 10 rfl (fun hb6 => ?_) (fun hb6 => ?_)
  · have h := if_bt h hb6
    refine awl_val hτ rfl rfl rfl ?_
    refine awl_val hτ rfl rfl rfl ?_
    refine awl_val hτ rfl rfl rfl ?_
    refine awl_val hτ rfl rfl rfl ?_
    refine bnd_elim h fun x7 hx7 h => ?_
    refine awl_callP hτ false [] rfl rfl rfl (enterOk func66 rfl rfl) rfl rfl (by simp) ⟨trivial, trivial, trivial⟩ (by repeat' first | exact trivial | refine ⟨?_, ?_⟩) (impl_SameNumber_ok n a_.im b_.im hx7) ?_
    rintro r0 o0 n0 ⟨rfl, rfl, rfl⟩ -
    refine awl_weak (weak_ofP [] (l := [(4, .d (.bool false)), (10, .d (.bool true)), (15, .d (.bool x7))]) (objs := []) rfl (by simp) rfl (by repeat' first | exact trivial | refine ⟨?_, ?_⟩) ⟨rfl, trivial, rfl, trivial, rfl, trivial, trivial⟩) ?_
    refine awl_val hτ rfl rfl rfl ?_
    refine awl_val hτ rfl rfl rfl ?_
    refine awl_nil ?_
    refine aw_weak (weak_ofP [] (l := [(4, .d (.bool x7))]) (objs := []) rfl (by simp) rfl (by repeat' first | exact trivial | refine ⟨?_, ?_⟩) ⟨rfl, trivial, trivial⟩) ?_
    refine aw_ret ?_
    have hr := Option.some.inj h
    subst hr
    exact ret_objs (.inr rfl) [] (objs' := []) (new := []) rfl (by simp) (by simp) rfl (by repeat' first | exact trivial | refine ⟨?_, ?_⟩) rfl rfl (by repeat' first | exact trivial | refine ⟨?_, ?_⟩) (fun _ => ⟨by simp [V.flat, V.flatA, V.flatC, D.flat], flat_nil⟩) ⟨rfl, rfl, rfl⟩
  · have h := if_bf h hb6
    refine awl_skip rfl rfl ?_
    refine awl_skip rfl rfl ?_
    refine awl_skip rfl rfl ?_
    refine awl_skip rfl rfl ?_
    refine awl_skip rfl rfl ?_
    refine awl_weak (weak_ofP [] (l := [(4, .d (.bool false)), (10, .d (.bool false)), (15, .und)]) (objs := []) rfl (by simp) rfl (by repeat' first | exact trivial | refine ⟨?_, ?_⟩) ⟨rfl, trivial, rfl, trivial, rfl, trivial, trivial⟩) ?_
    refine awl_val hτ rfl rfl rfl ?_
    refine awl_val hτ rfl rfl rfl ?_
    refine awl_nil ?_
    refine aw_weak (weak_ofP [] (l := [(4, .d (.bool false))]) (objs := []) rfl (by simp) rfl (by repeat' first | exact trivial | refine ⟨?_, ?_⟩) ⟨rfl, trivial, trivial⟩) ?_
    refine aw_ret ?_
    have hr := Option.some.inj h
    subst hr
    exact ret_objs (.inr rfl) [] (objs' := []) (new := []) rfl (by simp) (by simp) rfl (by repeat' first | exact trivial | refine ⟨?_, ?_⟩) rfl rfl (by repeat' first | exact trivial | refine ⟨?_, ?_⟩) (fun _ => ⟨by simp [V.flat, V.flatA, V.flatC, D.flat], flat_nil⟩) ⟨rfl, rfl, rfl⟩
theorem impl_SameComplex_ok (n : Nat) (a_ : Cx) (b_ : Cx) {r : Bool} (h : m_impl_SameComplex n a_ b_ = some r) : ACall prog false 25 [.d (.cx .f32 a_.re a_.im), .d (.cx .f32 b_.re b_.im)] [] (fun v o new => v = .d (.bool r) ∧ o = [] ∧ new = []) := impl_SameComplex_ok_fr0 false n a_ b_ h
theorem impl_SameComplex_ok_fr (n : Nat) (a_ : Cx) (b_ : Cx) {r : Bool} (h : m_impl_SameComplex n a_ b_ = some r) : ACall prog true 25 [.d (.cx .f32 a_.re a_.im), .d (.cx .f32 b_.re b_.im)] [] (fun v o new => v = .d (.bool r) ∧ o = [] ∧ new = []) := impl_SameComplex_ok_fr0 true n a_ b_ h

def m_impl_IsFiniteComplex (n : Nat) (x_ : Cx) : Option Bool :=
  (m_impl_finite n [x_.re, x_.im]).bind fun x2 =>
  some x2
theorem impl_IsFiniteComplex_ok_fr0 (fr : Bool) (n : Nat) (x_ : Cx) {r : Bool} (h : m_impl_IsFiniteComplex n x_ = some r) : ACall prog fr 27 [.d (.cx .f32 x_.re x_.im)] [] (fun v o new => v = .d (.bool r) ∧ o = [] ∧ new = []) := by
  refine acall_of_aw hτ func27 rfl (by simp) (by simp) ?_
  unfold m_impl_IsFiniteComplex at h
  refine aw_seq ?_
  refine aw_region ?_
  refine awl_val hτ rfl rfl rfl ?_
  refine awl_nil ?_
  refine aw_seq ?_
  refine aw_region ?_
  refine awl_val hτ rfl rfl rfl ?_
  refine awl_val hτ rfl rfl rfl ?_
  refine awl_val hτ rfl rfl rfl ?_
  refine awl_val hτ rfl rfl rfl ?_
  refine awl_valH hτ rfl rfl rfl ?_
  refine awl_weak (weak_ofP [0] (l := [(2, .d (.bool false)), (7, .row 0 ([x_.re, x_.im].length) 0 ([x_.re, x_.im].length))]) (objs := [.row 1 ([x_.re, x_.im].map eNatf32)]) rfl (by simp) rfl (by repeat' first | exact trivial | refine ⟨?_, ?_⟩) ⟨rfl, trivial, rfl, trivial, trivial⟩) ?_
  refine bnd_elim h fun x2 hx2 h => ?_
  refine awl_callP hτ true [] rfl rfl rfl (enterOk func67 rfl rfl) (mapO_cons (exV_view (f := eNatf32) [x_.re, x_.im] rfl rfl rfl) mapO_nil) rfl (by simp) ⟨(exVP_view (f := eNatf32) [x_.re, x_.im] rfl rfl rfl), trivial⟩ (by repeat' first | exact trivial | refine ⟨?_, ?_⟩) (impl_finite_ok_fr n [x_.re, x_.im] hx2) ?_
  rintro r0 o0 n0 ⟨rfl, rfl, rfl⟩ -
  refine awl_val hτ rfl rfl rfl ?_
  refine awl_nil ?_
  refine aw_weak (weak_ofP [] (l := [(2, .d (.bool x2))]) (objs := []) rfl (by simp) rfl (by repeat' first | exact trivial | refine ⟨?_, ?_⟩) ⟨rfl, trivial, trivial⟩) ?_
  refine aw_ret ?_
  have hr := Option.some.inj h
  subst hr
  exact ret_objs (.inr rfl) [] (objs' := []) (new := []) rfl (by simp) (by simp) rfl (by repeat' first | exact trivial | refine ⟨?_, ?_⟩) rfl rfl (by repeat' first | exact trivial | refine ⟨?_, ?_⟩) (fun _ => ⟨by simp [V.flat, V.flatA, V.flatC, D.flat], flat_nil⟩) ⟨rfl, rfl, rfl⟩
theorem impl_IsFiniteComplex_ok (n : Nat) (x_ : Cx) {r : Bool} (h : m_impl_IsFiniteComplex n x_ = some r) : ACall prog false 27 [.d (.cx .f32 x_.re x_.im)] [] (fun v o new => v = .d (.bool r) ∧ o = [] ∧ new = []) := impl_IsFiniteComplex_ok_fr0 false n x_ h
theorem impl_IsFiniteComplex_ok_fr (n : Nat) (x_ : Cx) {r : Bool} (h : m_impl_IsFiniteComplex n x_ = some r) : ACall prog true 27 [.d (.cx .f32 x_.re x_.im)] [] (fun v o new => v = .d (.bool r) ∧ o = [] ∧ new = []) := impl_IsFiniteComplex_ok_fr0 true n x_ h

def m_spec_l01Finite (n : Nat) (x_ : Nat) : Option Bool :=
  some (fcmp .eql .f32 (farith .sub .f32 x_ x_) (0 : Nat))
theorem spec_l01Finite_ok_fr0 (fr : Bool) (n : Nat) (x_ : Nat) {r : Bool} (h : m_spec_l01Finite n x_ = some r) : ACall prog fr 68 [.d (.fl .f32 x_)] [] (fun v o new => v = .d (.bool r) ∧ o = [] ∧ new = []) := by
  refine acall_of_aw hτ func68 rfl (by simp) (by simp) ?_
  unfold m_spec_l01Finite at h
  refine aw_seq ?_
  refine aw_region ?_
  refine awl_val hτ rfl rfl rfl ?_
  refine awl_nil ?_
  refine aw_seq ?_
  refine aw_region ?_
  refine awl_val hτ rfl rfl rfl ?_
  refine awl_val hτ rfl rfl rfl ?_
  refine awl_val hτ rfl rfl rfl ?_
  refine awl_val hτ rfl rfl rfl ?_
  refine awl_val hτ rfl rfl rfl ?_
  refine awl_nil ?_
  refine aw_weak (weak_ofP [] (l := [(2, .d (.bool (fcmp .eql .f32 (farith .sub .f32 x_ x_) (0 : Nat))))]) (objs := []) rfl (by simp) rfl (by repeat' first | exact trivial | refine ⟨?_, ?_⟩) ⟨rfl, trivial, trivial⟩) ?_
  refine aw_ret ?_
  have hr := Option.some.inj h
  subst hr
  exact ret_objs (.inr rfl) [] (objs' := []) (new := []) rfl (by simp) (by simp) rfl (by repeat' first | exact trivial | refine ⟨?_, ?_⟩) rfl rfl (by repeat' first | exact trivial | refine ⟨?_, ?_⟩) (fun _ => ⟨by simp [V.flat, V.flatA, V.flatC, D.flat], flat_nil⟩) ⟨rfl, rfl, rfl⟩
theorem spec_l01Finite_ok (n : Nat) (x_ : Nat) {r : Bool} (h : m_spec_l01Finite n x_ = some r) : ACall prog false 68 [.d (.fl .f32 x_)] [] (fun v o new => v = .d (.bool r) ∧ o = [] ∧ new = []) := spec_l01Finite_ok_fr0 false n x_ h
theorem spec_l01Finite_ok_fr (n : Nat) (x_ : Nat) {r : Bool} (h : m_spec_l01Finite n x_ = some r) : ACall prog true 68 [.d (.fl .f32 x_)] [] (fun v o new => v = .d (.bool r) ∧ o = [] ∧ new = []) := spec_l01Finite_ok_fr0 true n x_ h

def m_spec_IsFinite (n : Nat) (x_ : Nat) : Option Bool :=
  (m_spec_l01Finite n x_).bind fun x2 =>
  some x2
theorem spec_IsFinite_ok_fr0 (fr : Bool) (n : Nat) (x_ : Nat) {r : Bool} (h : m_spec_IsFinite n x_ = some r) : ACall prog fr 28 [.d (.fl .f32 x_)] [] (fun v o new => v = .d (.bool r) ∧ o = [] ∧ new = []) := by
  refine acall_of_aw hτ func28 rfl (by simp) (by simp) ?_
  unfold m_spec_IsFinite at h
  refine aw_seq ?_
  refine aw_region ?_
  refine awl_val hτ rfl rfl rfl ?_
  refine awl_nil ?_
  refine aw_seq ?_
  refine aw_region ?_
  refine awl_val hτ rfl rfl rfl ?_
  refine bnd_elim h fun x2 hx2 h => ?_
  refine awl_callP hτ false [] rfl rfl rfl (enterOk func68 rfl rfl) rfl rfl (by simp) ⟨trivial, trivial⟩ (by repeat' first | exact trivial | refine ⟨?_, ?_⟩) (spec_l01Finite_ok n x_ hx2) ?_
  rintro r0 o0 n0 ⟨rfl, rfl, rfl⟩ -
  refine awl_val hτ rfl rfl rfl ?_
  refine awl_nil ?_
  refine aw_weak (weak_ofP [] (l := [(2, .d (.bool x2))]) (objs := []) rfl (by simp) rfl (by repeat' first | exact trivial | refine ⟨?_, ?_⟩) ⟨rfl, trivial, trivial⟩) ?_
  refine aw_ret ?_
  have hr := Option.some.inj h
  subst hr
  exact ret_objs (.inr rfl) [] (objs' := []) (new := []) rfl (by simp) (by simp) rfl (by repeat' first | exact trivial | refine ⟨?_, ?_⟩) rfl rfl (by repeat' first | exact trivial | refine ⟨?_, ?_⟩) (fun _ => ⟨by simp [V.flat, V.flatA, V.flatC, D.flat], flat_nil⟩) ⟨rfl, rfl, rfl⟩
theorem spec_IsFinite_ok (n : Nat) (x_ : Nat) {r : Bool} (h : m_spec_IsFinite n x_ = some r) : ACall prog false 28 [.d (.fl .f32 x_)] [] (fun v o new => v = .d (.bool r) ∧ o = [] ∧ new = []) := spec_IsFinite_ok_fr0 false n x_ h
theorem spec_IsFinite_ok_fr (n : Nat) (x_ : Nat) {r : Bool} (h : m_spec_IsFinite n x_ = some r) : ACall prog true 28 [.d (.fl .f32 x_)] [] (fun v o new => v = .d (.bool r) ∧ o = [] ∧ new = []) := spec_IsFinite_ok_fr0 true n x_ h

def m_laws_FnProducts_j2 (n : Nat) (code_ : List Int) (more_ : List Int) : Option Bool :=
  (m_laws_b10At n code_ (0 : Int) (9 : Int)).bind fun x113 =>
  (m_spec_B10Any n more_ x113).bind fun x114 =>
  (m_impl_ComplexText n x114).bind fun x115 =>
  (m_impl_ReadComplex n x115.1).bind fun x116 =>
  (m_spec_B10Number n code_).bind fun x117 =>
  (m_impl_BitsOf n x117).bind fun x118 =>
  (m_impl_FromBits n x118).bind fun x119 =>
  (m_spec_B10Complex n code_).bind fun x120 =>
  (fconv .f32 .f64 x120.re).bind fun x121 =>
  (fconv .f32 .f64 x120.im).bind fun x122 =>
  if x115.2 = true then
    if x116.2 = true then
      if x119.2 = true then
        (m_laws_b10Same n x116.1 x114).bind fun x126 =>
        if x126 = true then
          (m_spec_SameNumber n x119.1 x117).bind fun x128 =>
          if x128 = true then
            (m_impl_NarrowComplex n (Cx.mk x121 x122)).bind fun x130 =>
            (m_impl_SameComplex n x130 x120).bind fun x131 =>
            if x131 = true then
              (m_impl_ConjugateOf n x120).bind fun x133 =>
              (m_impl_ConjugateOf n x133).bind fun x134 =>
              (m_impl_SameComplex n x134 x120).bind fun x135 =>
              if x135 = true then
                (m_impl_IsFiniteComplex n x120).bind fun x137 =>
                (m_spec_IsFinite n x120.re).bind fun x138 =>
                if x138 = true then
                  (m_spec_IsFinite n x120.im).bind fun x140 =>
                  some (x137 == x140)
                else
                  some (x137 == false)
              else
                some false
            else
              some false
          else
            some false
        else
          some false
      else
        some false
    else
      some false
  else
    some false
def m_laws_FnProducts_j3 (n : Nat) (code_ : List Int) (more_ : List Int) (v149 : Bool) : Option Bool :=
  if v149 = true then
    some false
  else
    m_laws_FnProducts_j2 n code_ more_
def m_laws_FnProducts_j1 (n : Nat) (code_ : List Int) (more_ : List Int) (x78 : Cx) (x80 : Cx) (x81 : Cx) : Option Bool :=
  if (fcmp .eql .f32 x80.re (0 : Nat) && fcmp .eql .f32 x80.im (0 : Nat)) = true then
    (m_impl_ScaleComplex n x78 (1073741824 : Nat)).bind fun x156 =>
    m_laws_FnProducts_j3 n code_ more_ (!(fcmp .eql .f32 x156.re (farith .add .f32 x78.re x78.re) && fcmp .eql .f32 x156.im (farith .add .f32 x78.im x78.im)))
  else
    (m_impl_QuotientOf n x81 x80).bind fun x153 =>
    if (fcmp .eql .f32 x153.re x78.re && fcmp .eql .f32 x153.im x78.im) = true then
      (m_impl_ScaleComplex n x78 (1073741824 : Nat)).bind fun x155 =>
      m_laws_FnProducts_j3 n code_ more_ (!(fcmp .eql .f32 x155.re (farith .add .f32 x78.re x78.re) && fcmp .eql .f32 x155.im (farith .add .f32 x78.im x78.im)))
    else
      m_laws_FnProducts_j3 n code_ more_ true
def m_laws_FnProducts_j4 (n : Nat) (code_ : List Int) (more_ : List Int) (x78 : Cx) (x80 : Cx) (x81 : Cx) (v170 : Bool) : Option Bool :=
  if v170 = true then
    some false
  else
    m_laws_FnProducts_j1 n code_ more_ x78 x80 x81
def m_laws_FnProducts (n : Nat) (code_ : List Int) (more_ : List Int) : Option Bool :=
  (m_laws_b10Long n code_ more_).bind fun x75 =>
  if x75 = true then
    some true
  else
    (m_spec_B10Whole n code_ (1 : Int) (200 : Int)).bind fun x77 =>
    (getI x77 (0 : Int)).bind fun x78 =>
    (m_spec_B10Whole n more_ (1 : Int) (200 : Int)).bind fun x79 =>
    (getI x79 (0 : Int)).bind fun x80 =>
    (m_impl_MulComplex n x78 x80).bind fun x81 =>
    (f2i .f32 .i64 x78.re).bind fun x82 =>
    (f2i .f32 .i64 x80.re).bind fun x83 =>
    (f2i .f32 .i64 x78.im).bind fun x84 =>
    (f2i .f32 .i64 x80.im).bind fun x85 =>
    (f2i .f32 .i64 x78.re).bind fun x86 =>
    (f2i .f32 .i64 x80.im).bind fun x87 =>
    (f2i .f32 .i64 x78.im).bind fun x88 =>
    (f2i .f32 .i64 x80.re).bind fun x89 =>
    (f2i .f32 .i64 x78.re).bind fun x90 =>
    (f2i .f32 .i64 x78.re).bind fun x91 =>
    (f2i .f32 .i64 x78.im).bind fun x92 =>
    (f2i .f32 .i64 x78.im).bind fun x93 =>
    if (fcmp .eql .f32 x81.re (FloatKind.nearest .f32 (w64 ((w64 (x82 * x83)) - (w64 (x84 * x85))))) && fcmp .eql .f32 x81.im (FloatKind.nearest .f32 (w64 ((w64 (x86 * x87)) + (w64 (x88 * x89)))))) = true then
      (m_impl_MulComplex n x80 x78).bind fun x174 =>
      if (fcmp .eql .f32 x174.re x81.re && fcmp .eql .f32 x174.im x81.im) = true then
        (m_impl_PowerOf n x78).bind fun x176 =>
        if (fcmp .neq .f32 x176 (FloatKind.nearest .f32 (w64 ((w64 (x90 * x91)) + (w64 (x92 * x93)))))) = true then
          m_laws_FnProducts_j4 n code_ more_ x78 x80 x81 true
        else
          (m_impl_ConjugateOf n x78).bind fun x178 =>
          (m_impl_MulComplex n x78 x178).bind fun x179 =>
          if (fcmp .eql .f32 x179.re (FloatKind.nearest .f32 (w64 ((w64 (x90 * x91)) + (w64 (x92 * x93))))) && fcmp .eql .f32 x179.im (0 : Nat)) = true then
            (m_impl_LongOf n x78).bind fun x181 =>
            (m_spec_RootNumber n (FloatKind.nearest .f32 (w64 ((w64 (x90 * x91)) + (w64 (x92 * x93)))))).bind fun x182 =>
            (m_spec_SameNumber n x181 x182).bind fun x183 =>
            m_laws_FnProducts_j4 n code_ more_ x78 x80 x81 (!x183)
          else
            m_laws_FnProducts_j4 n code_ more_ x78 x80 x81 true
      else
        m_laws_FnProducts_j4 n code_ more_ x78 x80 x81 true
    else
      m_laws_FnProducts_j4 n code_ more_ x78 x80 x81 true
theorem laws_FnProducts_ok_fr0 (fr : Bool) (n : Nat) (code_ : List Int) (more_ : List Int) {r : Bool} (h : m_laws_FnProducts n code_ more_ = some r) : ACall prog fr 3 [.d (.sl false (code_.map eIntu8)), .d (.sl false (more_.map eIntu8))] [] (fun v o new => v = .d (.bool r) ∧ o = [] ∧ new = []) := by
  refine acall_of_aw hτ func3 rfl (by simp) (by simp) ?_
  unfold m_laws_FnProducts at h
  refine aw_seq ?_
  refine aw_region ?_
  refine awl_val hτ rfl rfl rfl ?_
  refine awl_nil ?_
  refine aw_seq ?_
  refine aw_seq ?_
  refine aw_region ?_
  refine awl_val hτ rfl rfl rfl ?_
  refine awl_val hτ rfl rfl rfl ?_
  refine bnd_elim h fun x75 hx75 h => ?_
  refine awl_callP hτ false [] rfl rfl rfl (enterOk func6 rfl rfl) rfl rfl (by simp) ⟨trivial, trivial, trivial⟩ (by repeat' first | exact trivial | refine ⟨?_, ?_⟩) (laws_b10Long_ok n code_ more_ hx75) ?_
  rintro r0 o0 n0 ⟨rfl, rfl, rfl⟩ -
  refine awl_nil ?_
  refine aw_cond rfl (fun hc76 => ?_) (fun hc76 => ?_)
  · have h := if_bt h hc76
    refine aw_seq ?_
    refine aw_region ?_
    refine awl_val hτ rfl rfl rfl ?_
    refine awl_nil ?_
    refine aw_weak (weak_ofP [] (l := [(4, .d (.bool true))]) (objs := []) rfl (by simp) rfl (by repeat' first | exact trivial | refine ⟨?_, ?_⟩) ⟨rfl, trivial, trivial⟩) ?_
    refine aw_ret ?_
    have hr := Option.some.inj h
    subst hr
    exact ret_objs (.inr rfl) [] (objs' := []) (new := []) rfl (by simp) (by simp) rfl (by repeat' first | exact trivial | refine ⟨?_, ?_⟩) rfl rfl (by repeat' first | exact trivial | refine ⟨?_, ?_⟩) (fun _ => ⟨by simp [V.flat, V.flatA, V.flatC, D.flat], flat_nil⟩) ⟨rfl, rfl, rfl⟩
  · have h := if_bf h hc76
    refine aw_skip ?_
    refine aw_seq ?_
    refine aw_region ?_
    refine awl_val hτ rfl rfl rfl ?_
    refine bnd_elim h fun x77 hx77 h => ?_
    refine awl_callP hτ false [] rfl rfl rfl (enterOk func7 rfl rfl) rfl rfl (by simp) ⟨trivial, trivial, trivial, trivial⟩ (by repeat' first | exact trivial | refine ⟨?_, ?_⟩) (spec_B10Whole_ok n code_ (1 : Int) (200 : Int) hx77) ?_
    rintro r0 o0 n0 ⟨rfl, rfl, rfl⟩ -
    refine bnd_elim h fun x78 hx78 h => ?_
    refine awl_need hτ rfl rfl rfl (row_need hx78) ?_
    refine awl_elem hτ rfl rfl rfl (len_map _) (row_get hx78) rfl ?_
    refine awl_val hτ rfl rfl rfl ?_
    refine awl_nil ?_
    refine aw_seq ?_
    refine aw_weak (weak_ofP [] (l := [(0, .d (.sl false (code_.map eIntu8))), (1, .d (.sl false (more_.map eIntu8))), (5, .d (.cx .f32 x78.re x78.im))]) (objs := []) rfl (by simp) rfl (by repeat' first | exact trivial | refine ⟨?_, ?_⟩) ⟨rfl, trivial, rfl, trivial, rfl, trivial, trivial⟩) ?_
    refine aw_region ?_
    refine awl_val hτ rfl rfl rfl ?_
    refine bnd_elim h fun x79 hx79 h => ?_
    refine awl_callP hτ false [] rfl rfl rfl (enterOk func7 rfl rfl) rfl rfl (by simp) ⟨trivial, trivial, trivial, trivial⟩ (by repeat' first | exact trivial | refine ⟨?_, ?_⟩) (spec_B10Whole_ok n more_ (1 : Int) (200 : Int) hx79) ?_
    rintro r0 o0 n0 ⟨rfl, rfl, rfl⟩ -
    refine bnd_elim h fun x80 hx80 h => ?_
    refine awl_need hτ rfl rfl rfl (row_need hx80) ?_
    refine awl_elem hτ rfl rfl rfl (len_map _) (row_get hx80) rfl ?_
    refine awl_val hτ rfl rfl rfl ?_
    refine awl_nil ?_
    refine aw_seq ?_
    refine aw_region ?_
    refine awl_val hτ rfl rfl rfl ?_
    refine awl_val hτ rfl rfl rfl ?_
    refine bnd_elim h fun x81 hx81 h => ?_
    refine awl_callP hτ false [] rfl rfl rfl (enterOk func8 rfl rfl) rfl rfl (by simp) ⟨trivial, trivial, trivial⟩ (by repeat' first | exact trivial | refine ⟨?_, ?_⟩) (impl_MulComplex_ok n x78 x80 hx81) ?_
    rintro r0 o0 n0 ⟨rfl, rfl, rfl⟩ -
    refine awl_val hτ rfl rfl rfl ?_
    refine awl_nil ?_
    refine aw_seq ?_
    refine aw_weak (weak_ofP [] (l := [(0, .d (.sl false (code_.map eIntu8))), (1, .d (.sl false (more_.map eIntu8))), (5, .d (.cx .f32 x78.re x78.im)), (6, .d (.cx .f32 x80.re x80.im)), (7, .d (.cx .f32 x81.re x81.im))]) (objs := []) rfl (by simp) rfl (by repeat' first | exact trivial | refine ⟨?_, ?_⟩) ⟨rfl, trivial, rfl, trivial, rfl, trivial, rfl, trivial, rfl, trivial, trivial⟩) ?_
    refine aw_region ?_
    refine awl_val hτ rfl rfl rfl ?_
    refine awl_val hτ rfl rfl rfl ?_
    refine bnd_elim h fun x82 hx82 h => ?_
    refine awl_x rfl rfl (x_f2i hτ rfl rfl rfl rfl rfl rfl hx82) ?_
    refine awl_val hτ rfl rfl rfl ?_
    refine awl_val hτ rfl rfl rfl ?_
    refine bnd_elim h fun x83 hx83 h => ?_
    refine awl_x rfl rfl (x_f2i hτ rfl rfl rfl rfl rfl rfl hx83) ?_
    refine awl_val hτ rfl rfl rfl ?_
    refine awl_val hτ rfl rfl rfl ?_
    refine awl_val hτ rfl rfl rfl ?_
    refine bnd_elim h fun x84 hx84 h => ?_
    refine awl_x rfl rfl (x_f2i hτ rfl rfl rfl rfl rfl rfl hx84) ?_
    refine awl_val hτ rfl rfl rfl ?_
    refine awl_val hτ rfl rfl rfl ?_
    refine awl_weak (weak_ofP [] (l := [(0, .d (.sl false (code_.map eIntu8))), (1, .d (.sl false (more_.map eIntu8))), (5, .d (.cx .f32 x78.re x78.im)), (6, .d (.cx .f32 x80.re x80.im)), (7, .d (.cx .f32 x81.re x81.im)), (41, .d (.int .i64 (w64 (x82 * x83)))), (44, .d (.int .i64 x84)), (46, .d (.fl .f32 x80.im))]) (objs := []) rfl (by simp) rfl (by repeat' first | exact trivial | refine ⟨?_, ?_⟩) ⟨rfl, trivial, rfl, trivial, rfl, trivial, rfl, trivial, rfl, trivial, rfl, trivial, rfl, trivial, rfl, trivial, trivial⟩) ?_
    refine bnd_elim h fun x85 hx85 h => ?_
    refine awl_x rfl rfl (x_f2i hτ rfl rfl rfl rfl rfl rfl hx85) ?_
    refine awl_val hτ rfl rfl rfl ?_
    refine awl_val hτ rfl rfl rfl ?_
    refine awl_val hτ rfl rfl rfl ?_
    refine awl_nil ?_
    refine aw_seq ?_
    refine aw_region ?_
    refine awl_val hτ rfl rfl rfl ?_
    refine awl_val hτ rfl rfl rfl ?_
    refine bnd_elim h fun x86 hx86 h => ?_
    refine awl_x rfl rfl (x_f2i hτ rfl rfl rfl rfl rfl rfl hx86) ?_
    refine awl_val hτ rfl rfl rfl ?_
    refine awl_val hτ rfl rfl rfl ?_
    refine bnd_elim h fun x87 hx87 h => ?_
    refine awl_x rfl rfl (x_f2i hτ rfl rfl rfl rfl rfl rfl hx87) ?_
    refine awl_val hτ rfl rfl rfl ?_
    refine awl_val hτ rfl rfl rfl ?_
    refine awl_weak (weak_ofP [] (l := [(0, .d (.sl false (code_.map eIntu8))), (1, .d (.sl false (more_.map eIntu8))), (5, .d (.cx .f32 x78.re x78.im)), (6, .d (.cx .f32 x80.re x80.im)), (7, .d (.cx .f32 x81.re x81.im)), (8, .d (.int .i64 (w64 ((w64 (x82 * x83)) - (w64 (x84 * x85)))))), (56, .d (.int .i64 (w64 (x86 * x87)))), (57, .d (.cx .f32 x78.re x78.im))]) (objs := []) rfl (by simp) rfl (by repeat' first | exact trivial | refine ⟨?_, ?_⟩) ⟨rfl, trivial, rfl, trivial, rfl, trivial, rfl, trivial, rfl, trivial, rfl, trivial, rfl, trivial, rfl, trivial, trivial⟩) ?_
    refine awl_val hτ rfl rfl rfl ?_
    refine bnd_elim h fun x88 hx88 h => ?_
    refine awl_x rfl rfl (x_f2i hτ rfl rfl rfl rfl rfl rfl hx88) ?_
    refine awl_val hτ rfl rfl rfl ?_
    refine awl_val hτ rfl rfl rfl ?_
    refine bnd_elim h fun x89 hx89 h => ?_
    refine awl_x rfl rfl (x_f2i hτ rfl rfl rfl rfl rfl rfl hx89) ?_
    refine awl_val hτ rfl rfl rfl ?_
    refine awl_val hτ rfl rfl rfl ?_
    refine awl_val hτ rfl rfl rfl ?_
    refine awl_nil ?_
    refine aw_seq ?_
    refine aw_weak (weak_ofP [] (l := [(0, .d (.sl false (code_.map eIntu8))), (1, .d (.sl false (more_.map eIntu8))), (5, .d (.cx .f32 x78.re x78.im)), (6, .d (.cx .f32 x80.re x80.im)), (7, .d (.cx .f32 x81.re x81.im)), (8, .d (.int .i64 (w64 ((w64 (x82 * x83)) - (w64 (x84 * x85)))))), (9, .d (.int .i64 (w64 ((w64 (x86 * x87)) + (w64 (x88 * x89))))))]) (objs := []) rfl (by simp) rfl (by repeat' first | exact trivial | refine ⟨?_, ?_⟩) ⟨rfl, trivial, rfl, trivial, rfl, trivial, rfl, trivial, rfl, trivial, rfl, trivial, rfl, trivial, trivial⟩) ?_
    refine aw_region ?_
    refine awl_val hτ rfl rfl rfl ?_
    refine awl_val hτ rfl rfl rfl ?_
    refine bnd_elim h fun x90 hx90 h => ?_
    refine awl_x rfl rfl (x_f2i hτ rfl rfl rfl rfl rfl rfl hx90) ?_
    refine awl_val hτ rfl rfl rfl ?_
    refine awl_val hτ rfl rfl rfl ?_
    refine bnd_elim h fun x91 hx91 h => ?_
    refine awl_x rfl rfl (x_f2i hτ rfl rfl rfl rfl rfl rfl hx91) ?_
    refine awl_val hτ rfl rfl rfl ?_
    refine awl_val hτ rfl rfl rfl ?_
    refine awl_val hτ rfl rfl rfl ?_
    refine bnd_elim h fun x92 hx92 h => ?_
    refine awl_x rfl rfl (x_f2i hτ rfl rfl rfl rfl rfl rfl hx92) ?_
    refine awl_val hτ rfl rfl rfl ?_
    refine awl_val hτ rfl rfl rfl ?_
    refine awl_weak (weak_ofP [] (l := [(0, .d (.sl false (code_.map eIntu8))), (1, .d (.sl false (more_.map eIntu8))), (5, .d (.cx .f32 x78.re x78.im)), (6, .d (.cx .f32 x80.re x80.im)), (7, .d (.cx .f32 x81.re x81.im)), (8, .d (.int .i64 (w64 ((w64 (x82 * x83)) - (w64 (x84 * x85)))))), (9, .d (.int .i64 (w64 ((w64 (x86 * x87)) + (w64 (x88 * x89)))))), (71, .d (.int .i64 (w64 (x90 * x91)))), (74, .d (.int .i64 x92)), (76, .d (.fl .f32 x78.im))]) (objs := []) rfl (by simp) rfl (by repeat' first | exact trivial | refine ⟨?_, ?_⟩) ⟨rfl, trivial, rfl, trivial, rfl, trivial, rfl, trivial, rfl, trivial, rfl, trivial, rfl, trivial, rfl, trivial, rfl, trivial, rfl, trivial, trivial⟩) ?_
    refine bnd_elim h fun x93 hx93 h => ?_
    refine awl_x rfl rfl (x_f2i hτ rfl rfl rfl rfl rfl rfl hx93) ?_
    refine awl_val hτ rfl rfl rfl ?_
    refine awl_val hτ rfl rfl rfl ?_
    refine awl_val hτ rfl rfl rfl ?_
    refine awl_nil ?_
    refine aw_hk1 (ι := Unit) (fun _ => St.of [(0, .d (.sl false (code_.map eIntu8))), (1, .d (.sl false (more_.map eIntu8))), (5, .d (.cx .f32 x78.re x78.im)), (6, .d (.cx .f32 x80.re x80.im)), (7, .d (.cx .f32 x81.re x81.im))] [] f3.ntmps 0) (fun _ => m_laws_FnProducts_j1 n code_ more_ x78 x80 x81 = some r) ?_ (fun hk157 => ?_)
    · rintro ⟨⟩ h
      replace h : m_laws_FnProducts_j1 n code_ more_ x78 x80 x81 = some r := h
      unfold m_laws_FnProducts_j1 at h
      refine aw_hk1 (ι := Unit) (fun _ => St.of [(0, .d (.sl false (code_.map eIntu8))), (1, .d (.sl false (more_.map eIntu8)))] [] f3.ntmps 0) (fun _ => m_laws_FnProducts_j2 n code_ more_ = some r) ?_ (fun hk141 => ?_)
      · rintro ⟨⟩ h
        replace h : m_laws_FnProducts_j2 n code_ more_ = some r := h
        unfold m_laws_FnProducts_j2 at h
        refine aw_seq ?_
        refine aw_region ?_
        refine awl_val hτ rfl rfl rfl ?_
        refine awl_val hτ rfl rfl rfl ?_
        refine bnd_elim h fun x113 hx113 h => ?_
        refine awl_callP hτ false [] rfl rfl rfl (enterOk func17 rfl rfl) rfl rfl (by simp) ⟨trivial, trivial, trivial, trivial⟩ (by repeat' first | exact trivial | refine ⟨?_, ?_⟩) (laws_b10At_ok n code_ (0 : Int) (9 : Int) hx113) ?_
        rintro r0 o0 n0 ⟨rfl, rfl, rfl⟩ -
        refine bnd_elim h fun x114 hx114 h => ?_
        refine awl_callP hτ false [] rfl rfl rfl (enterOk func16 rfl rfl) rfl rfl (by simp) ⟨trivial, trivial, trivial⟩ (by repeat' first | exact trivial | refine ⟨?_, ?_⟩) (spec_B10Any_ok n more_ x113 hx114) ?_
        rintro r0 o0 n0 ⟨rfl, rfl, rfl⟩ -
        refine awl_val hτ rfl rfl rfl ?_
        refine awl_nil ?_
        refine aw_seq ?_
        refine aw_region ?_
        refine awl_val hτ rfl rfl rfl ?_
        refine awl_weak (weak_ofP [0] (l := [(0, .d (.sl false (code_.map eIntu8))), (11, .row 0 x114.length 0 x114.length), (142, .row 0 x114.length 0 x114.length)]) (objs := [.row 1 (x114.map eCxf32)]) rfl (by simp) rfl (by repeat' first | exact trivial | refine ⟨?_, ?_⟩) ⟨rfl, trivial, rfl, trivial, rfl, trivial, trivial⟩) ?_
        refine bnd_elim h fun x115 hx115 h => ?_
        refine awl_callP hτ true [] rfl rfl rfl (enterOk func18 rfl rfl) (mapO_cons (exV_view (f := eCxf32) x114 rfl rfl rfl) mapO_nil) rfl (by simp) ⟨(exVP_view (f := eCxf32) x114 rfl rfl rfl), trivial⟩ (by repeat' first | exact trivial | refine ⟨?_, ?_⟩) (impl_ComplexText_ok_fr n x114 hx115) ?_
        rintro r0 o0 n0 ⟨rfl, rfl, rfl⟩ -
        refine awl_val hτ rfl rfl rfl ?_
        refine awl_val hτ rfl rfl rfl ?_
        refine awl_val hτ rfl rfl rfl ?_
        refine awl_val hτ rfl rfl rfl ?_
        refine awl_val hτ rfl rfl rfl ?_
        refine awl_nil ?_
        refine aw_seq ?_
        refine aw_weak (weak_ofP [0] (l := [(0, .d (.sl false (code_.map eIntu8))), (11, .row 0 x114.length 0 x114.length), (12, .d (.str (bstr x115.1))), (13, .d (.bool x115.2))]) (objs := [.row 1 (x114.map eCxf32)]) rfl (by simp) rfl (by repeat' first | exact trivial | refine ⟨?_, ?_⟩) ⟨rfl, trivial, rfl, trivial, rfl, trivial, rfl, trivial, trivial⟩) ?_
        refine aw_region ?_
        refine awl_val hτ rfl rfl rfl ?_
        refine bnd_elim h fun x116 hx116 h => ?_
        refine awl_callP hτ false [] rfl rfl rfl (enterOk func19 rfl rfl) rfl rfl (by simp) ⟨trivial, trivial⟩ (by repeat' first | exact trivial | refine ⟨?_, ?_⟩) (impl_ReadComplex_ok n x115.1 hx116) ?_
        rintro r0 o0 n0 ⟨rfl, rfl, rfl⟩ -
        refine awl_val hτ rfl rfl rfl ?_
        refine awl_val hτ rfl rfl rfl ?_
        refine awl_val hτ rfl rfl rfl ?_
        refine awl_val hτ rfl rfl rfl ?_
        refine awl_val hτ rfl rfl rfl ?_
        refine awl_nil ?_
        refine aw_seq ?_
        refine aw_weak (weak_ofP [0, 1] (l := [(0, .d (.sl false (code_.map eIntu8))), (11, .row 0 x114.length 0 x114.length), (13, .d (.bool x115.2)), (14, .row 1 x116.1.length 0 x116.1.length), (15, .d (.bool x116.2))]) (objs := [.row 1 (x114.map eCxf32), .row 1 (x116.1.map eCxf32)]) rfl (by simp) rfl (by repeat' first | exact trivial | refine ⟨?_, ?_⟩) ⟨rfl, trivial, rfl, trivial, rfl, trivial, rfl, trivial, rfl, trivial, trivial⟩) ?_
        refine aw_region ?_
        refine awl_val hτ rfl rfl rfl ?_
        refine bnd_elim h fun x117 hx117 h => ?_
        refine awl_callP hτ false [] rfl rfl rfl (enterOk func20 rfl rfl) rfl rfl (by simp) ⟨trivial, trivial⟩ (by repeat' first | exact trivial | refine ⟨?_, ?_⟩) (spec_B10Number_ok n code_ hx117) ?_
        rintro r0 o0 n0 ⟨rfl, rfl, rfl⟩ -
        refine awl_val hτ rfl rfl rfl ?_
        refine awl_nil ?_
        refine aw_seq ?_
        refine aw_region ?_
        refine awl_val hτ rfl rfl rfl ?_
        refine bnd_elim h fun x118 hx118 h => ?_
        refine awl_callP hτ false [] rfl rfl rfl (enterOk func22 rfl rfl) rfl rfl (by simp) ⟨trivial, trivial⟩ (by repeat' first | exact trivial | refine ⟨?_, ?_⟩) (impl_BitsOf_ok n x117 hx118) ?_
        rintro r0 o0 n0 ⟨rfl, rfl, rfl⟩ -
        refine bnd_elim h fun x119 hx119 h => ?_
        refine awl_callP hτ false [] rfl rfl rfl (enterOk func21 rfl rfl) rfl rfl (by simp) ⟨trivial, trivial⟩ (by repeat' first | exact trivial | refine ⟨?_, ?_⟩) (impl_FromBits_ok n x118 hx119) ?_
        rintro r0 o0 n0 ⟨rfl, rfl, rfl⟩ -
        refine awl_val hτ rfl rfl rfl ?_
        refine awl_val hτ rfl rfl rfl ?_
        refine awl_val hτ rfl rfl rfl ?_
        refine awl_val hτ rfl rfl rfl ?_
        refine awl_val hτ rfl rfl rfl ?_
        refine awl_nil ?_
        refine aw_seq ?_
        refine aw_weak (weak_ofP [0, 1] (l := [(0, .d (.sl false (code_.map eIntu8))), (11, .row 0 x114.length 0 x114.length), (13, .d (.bool x115.2)), (14, .row 1 x116.1.length 0 x116.1.length), (15, .d (.bool x116.2)), (16, .d (.fl .f32 x117)), (17, .d (.fl .f32 x119.1)), (18, .d (.bool x119.2))]) (objs := [.row 1 (x114.map eCxf32), .row 1 (x116.1.map eCxf32)]) rfl (by simp) rfl (by repeat' first | exact trivial | refine ⟨?_, ?_⟩) ⟨rfl, trivial, rfl, trivial, rfl, trivial, rfl, trivial, rfl, trivial, rfl, trivial, rfl, trivial, rfl, trivial, trivial⟩) ?_
        refine aw_region ?_
        refine awl_val hτ rfl rfl rfl ?_
        refine bnd_elim h fun x120 hx120 h => ?_
        refine awl_callP hτ false [] rfl rfl rfl (enterOk func23 rfl rfl) rfl rfl (by simp) ⟨trivial, trivial⟩ (by repeat' first | exact trivial | refine ⟨?_, ?_⟩) (spec_B10Complex_ok n code_ hx120) ?_
        rintro r0 o0 n0 ⟨rfl, rfl, rfl⟩ -
        refine awl_val hτ rfl rfl rfl ?_
        refine awl_nil ?_
        refine aw_seq ?_
        refine aw_region ?_
        refine awl_val hτ rfl rfl rfl ?_
        refine awl_val hτ rfl rfl rfl ?_
        refine bnd_elim h fun x121 hx121 h => ?_
        refine awl_val hτ (v := .d (.fl .f64 x121)) rfl rfl (conv_val hx121) ?_
        refine awl_val hτ rfl rfl rfl ?_
        refine awl_val hτ rfl rfl rfl ?_
        refine bnd_elim h fun x122 hx122 h => ?_
        refine awl_val hτ (v := .d (.fl .f64 x122)) rfl rfl (conv_val hx122) ?_
        refine awl_val hτ rfl rfl rfl ?_
        refine awl_val hτ rfl rfl rfl ?_
        refine awl_nil ?_
        refine aw_seq ?_
        refine aw_weak (weak_ofP [0, 1] (l := [(11, .row 0 x114.length 0 x114.length), (13, .d (.bool x115.2)), (14, .row 1 x116.1.length 0 x116.1.length), (15, .d (.bool x116.2)), (16, .d (.fl .f32 x117)), (17, .d (.fl .f32 x119.1)), (18, .d (.bool x119.2)), (19, .d (.cx .f32 x120.re x120.im)), (20, .d (.cx .f64 x121 x122))]) (objs := [.row 1 (x114.map eCxf32), .row 1 (x116.1.map eCxf32)]) rfl (by simp) rfl (by repeat' first | exact trivial | refine ⟨?_, ?_⟩) ⟨rfl, trivial, rfl, trivial, rfl, trivial, rfl, trivial, rfl, trivial, rfl, trivial, rfl, trivial, rfl, trivial, rfl, trivial, trivial⟩) ?_
        refine aw_region ?_
        refine awl_val hτ rfl rfl rfl ?_
        refine awl_val hτ rfl rfl rfl ?_
        refine awl_split 169 rfl (fun hb123 => ?_) (fun hb123 => ?_)
        · have h := if_bt h hb123
          refine awl_val hτ rfl rfl rfl ?_
          refine awl_val hτ rfl rfl rfl ?_
          refine awl_val hτ rfl rfl rfl ?_
          refine awl_split 172 rfl (fun hb124 => ?_) (fun hb124 => ?_)
          · have h := if_bt h hb124
            refine awl_val hτ rfl rfl rfl ?_
            refine awl_val hτ rfl rfl rfl ?_
            refine awl_val hτ rfl rfl rfl ?_
            refine awl_split 175 rfl (fun hb125 => ?_) (fun hb125 => ?_)
            · have h := if_bt h hb125
              refine awl_val hτ rfl rfl rfl ?_
              refine awl_val hτ rfl rfl rfl ?_
              refine awl_weak (weak_ofP [1, 0] (l := [(16, .d (.fl .f32 x117)), (17, .d (.fl .f32 x119.1)), (19, .d (.cx .f32 x120.re x120.im)), (20, .d (.cx .f64 x121 x122)), (175, .d (.bool true)), (176, .row 0 x116.1.length 0 x116.1.length), (177, .row 1 x114.length 0 x114.length)]) (objs := [.row 1 (x116.1.map eCxf32), .row 1 (x114.map eCxf32)]) rfl (by simp) rfl (by repeat' first | exact trivial | refine ⟨?_, ?_⟩) ⟨rfl, trivial, rfl, trivial, rfl, trivial, rfl, trivial, rfl, trivial, rfl, trivial, rfl, trivial, trivial⟩) ?_
              refine bnd_elim h fun x126 hx126 h => ?_
              refine awl_callP hτ true [] rfl rfl rfl (enterOk func24 rfl rfl) (mapO_cons (exV_view (f := eCxf32) x116.1 rfl rfl rfl) (mapO_cons (exV_view (f := eCxf32) x114 rfl rfl rfl) mapO_nil)) rfl (by simp) ⟨(exVP_view (f := eCxf32) x116.1 rfl rfl rfl), (exVP_view (f := eCxf32) x114 rfl rfl rfl), trivial⟩ (by repeat' first | exact trivial | refine ⟨?_, ?_⟩) (laws_b10Same_ok_fr n x116.1 x114 hx126) ?_
              rintro r0 o0 n0 ⟨rfl, rfl, rfl⟩ -
              refine awl_val hτ rfl rfl rfl ?_
              refine awl_val hτ rfl rfl rfl ?_
              refine awl_split 180 rfl (fun hb127 => ?_) (fun hb127 => ?_)
              · have h := if_bt h hb127
                refine awl_val hτ rfl rfl rfl ?_
                refine awl_val hτ rfl rfl rfl ?_
                refine bnd_elim h fun x128 hx128 h => ?_
                refine awl_callP hτ false [] rfl rfl rfl (enterOk func11 rfl rfl) rfl rfl (by simp) ⟨trivial, trivial, trivial⟩ (by repeat' first | exact trivial | refine ⟨?_, ?_⟩) (spec_SameNumber_ok n x119.1 x117 hx128) ?_
                rintro r0 o0 n0 ⟨rfl, rfl, rfl⟩ -
                refine awl_val hτ rfl rfl rfl ?_
                refine awl_val hτ rfl rfl rfl ?_
                refine awl_split 185 rfl (fun hb129 => ?_) (fun hb129 => ?_)
                · have h := if_bt h hb129
                  refine awl_val hτ rfl rfl rfl ?_
                  refine bnd_elim h fun x130 hx130 h => ?_
                  refine awl_callP hτ false [] rfl rfl rfl (enterOk func26 rfl rfl) rfl rfl (by simp) ⟨trivial, trivial⟩ (by repeat' first | exact trivial | refine ⟨?_, ?_⟩) (impl_NarrowComplex_ok n (Cx.mk x121 x122) hx130) ?_
                  rintro r0 o0 n0 ⟨rfl, rfl, rfl⟩ -
                  refine awl_val hτ rfl rfl rfl ?_
                  refine bnd_elim h fun x131 hx131 h => ?_
                  refine awl_callP hτ false [] rfl rfl rfl (enterOk func25 rfl rfl) rfl rfl (by simp) ⟨trivial, trivial, trivial⟩ (by repeat' first | exact trivial | refine ⟨?_, ?_⟩) (impl_SameComplex_ok n x130 x120 hx131) ?_
                  rintro r0 o0 n0 ⟨rfl, rfl, rfl⟩ -
                  refine awl_weak (weak_ofP [] (l := [(19, .d (.cx .f32 x120.re x120.im)), (185, .d (.bool true)), (189, .d (.bool x131))]) (objs := []) rfl (by simp) rfl (by repeat' first | exact trivial | refine ⟨?_, ?_⟩) ⟨rfl, trivial, rfl, trivial, rfl, trivial, trivial⟩) ?_
                  refine awl_val hτ rfl rfl rfl ?_
                  refine awl_val hτ rfl rfl rfl ?_
                  refine awl_split 191 rfl (fun hb132 => ?_) (fun hb132 => ?_)
                  · have h := if_bt h hb132
                    refine awl_val hτ rfl rfl rfl ?_
                    refine bnd_elim h fun x133 hx133 h => ?_
                    refine awl_callP hτ false [] rfl rfl rfl (enterOk func10 rfl rfl) rfl rfl (by simp) ⟨trivial, trivial⟩ (by repeat' first | exact trivial | refine ⟨?_, ?_⟩) (impl_ConjugateOf_ok n x120 hx133) ?_
                    rintro r0 o0 n0 ⟨rfl, rfl, rfl⟩ -
                    refine bnd_elim h fun x134 hx134 h => ?_
                    refine awl_callP hτ false [] rfl rfl rfl (enterOk func10 rfl rfl) rfl rfl (by simp) ⟨trivial, trivial⟩ (by repeat' first | exact trivial | refine ⟨?_, ?_⟩) (impl_ConjugateOf_ok n x133 hx134) ?_
                    rintro r0 o0 n0 ⟨rfl, rfl, rfl⟩ -
                    refine awl_val hτ rfl rfl rfl ?_
                    refine bnd_elim h fun x135 hx135 h => ?_
                    refine awl_callP hτ false [] rfl rfl rfl (enterOk func25 rfl rfl) rfl rfl (by simp) ⟨trivial, trivial, trivial⟩ (by repeat' first | exact trivial | refine ⟨?_, ?_⟩) (impl_SameComplex_ok n x134 x120 hx135) ?_
                    rintro r0 o0 n0 ⟨rfl, rfl, rfl⟩ -
                    refine awl_val hτ rfl rfl rfl ?_
                    refine awl_val hτ rfl rfl rfl ?_
                    refine awl_split 198 rfl (fun hb136 => ?_) (fun hb136 => ?_)
                    · have h := if_bt h hb136
                      refine awl_val hτ rfl rfl rfl ?_
                      refine bnd_elim h fun x137 hx137 h => ?_
                      refine awl_callP hτ false [] rfl rfl rfl (enterOk func27 rfl rfl) rfl rfl (by simp) ⟨trivial, trivial⟩ (by repeat' first | exact trivial | refine ⟨?_, ?_⟩) (impl_IsFiniteComplex_ok n x120 hx137) ?_
                      rintro r0 o0 n0 ⟨rfl, rfl, rfl⟩ -
                      refine awl_val hτ rfl rfl rfl ?_
                      refine awl_weak (weak_ofP [] (l := [(19, .d (.cx .f32 x120.re x120.im)), (198, .d (.bool true)), (200, .d (.bool x137)), (201, .d (.cx .f32 x120.re x120.im))]) (objs := []) rfl (by simp) rfl (by repeat' first | exact trivial | refine ⟨?_, ?_⟩) ⟨rfl, trivial, rfl, trivial, rfl, trivial, rfl, trivial, trivial⟩) ?_
                      refine awl_val hτ rfl rfl rfl ?_
                      refine bnd_elim h fun x138 hx138 h => ?_
                      refine awl_callP hτ false [] rfl rfl rfl (enterOk func28 rfl rfl) rfl rfl (by simp) ⟨trivial, trivial⟩ (by repeat' first | exact trivial | refine ⟨?_, ?_⟩) (spec_IsFinite_ok n x120.re hx138) ?_
                      rintro r0 o0 n0 ⟨rfl, rfl, rfl⟩ -
                      refine awl_val hτ rfl rfl rfl ?_
                      refine awl_split 204 rfl (fun hb139 => ?_) (fun hb139 => ?_)
                      · have h := if_bt h hb139
                        refine awl_val hτ rfl rfl rfl ?_
                        refine awl_val hτ rfl rfl rfl ?_
                        refine bnd_elim h fun x140 hx140 h => ?_
                        refine awl_callP hτ false [] rfl rfl rfl (enterOk func28 rfl rfl) rfl rfl (by simp) ⟨trivial, trivial⟩ (by repeat' first | exact trivial | refine ⟨?_, ?_⟩) (spec_IsFinite_ok n x120.im hx140) ?_
                        rintro r0 o0 n0 ⟨rfl, rfl, rfl⟩ -
                        refine awl_val hτ rfl rfl rfl ?_
                        refine awl_val hτ rfl rfl rfl ?_
                        refine awl_val hτ rfl rfl rfl ?_
                        refine awl_val hτ rfl rfl rfl ?_
                        refine awl_nil ?_
                        refine aw_weak (weak_ofP [] (l := [(4, .d (.bool (x137 == x140)))]) (objs := []) rfl (by simp) rfl (by repeat' first | exact trivial | refine ⟨?_, ?_⟩) ⟨rfl, trivial, trivial⟩) ?_
                        refine aw_ret ?_
                        have hr := Option.some.inj h
                        subst hr
                        exact ret_objs (.inr rfl) [] (objs' := []) (new := []) rfl (by simp) (by simp) rfl (by repeat' first | exact trivial | refine ⟨?_, ?_⟩) rfl rfl (by repeat' first | exact trivial | refine ⟨?_, ?_⟩) (fun _ => ⟨by simp [V.flat, V.flatA, V.flatC, D.flat], flat_nil⟩) ⟨rfl, rfl, rfl⟩
                      · have h := if_bf h hb139
                        refine awl_skip rfl rfl ?_
                        refine awl_skip rfl rfl ?_
                        refine awl_skip rfl rfl ?_
                        refine awl_val hτ rfl rfl rfl ?_
                        refine awl_val hτ rfl rfl rfl ?_
                        refine awl_val hτ rfl rfl rfl ?_
                        refine awl_val hτ rfl rfl rfl ?_
                        refine awl_nil ?_
                        refine aw_weak (weak_ofP [] (l := [(4, .d (.bool (x137 == false)))]) (objs := []) rfl (by simp) rfl (by repeat' first | exact trivial | refine ⟨?_, ?_⟩) ⟨rfl, trivial, trivial⟩) ?_
                        refine aw_ret ?_
                        have hr := Option.some.inj h
                        subst hr
                        exact ret_objs (.inr rfl) [] (objs' := []) (new := []) rfl (by simp) (by simp) rfl (by repeat' first | exact trivial | refine ⟨?_, ?_⟩) rfl rfl (by repeat' first | exact trivial | refine ⟨?_, ?_⟩) (fun _ => ⟨by simp [V.flat, V.flatA, V.flatC, D.flat], flat_nil⟩) ⟨rfl, rfl, rfl⟩
                    · have h := if_bf h hb136
                      refine awl_skip rfl rfl ?_
                      refine awl_skip rfl rfl ?_
                      refine awl_skip rfl rfl ?_
                      refine awl_weak (weak_ofP [] (l := [(19, .d (.cx .f32 x120.re x120.im)), (198, .d (.bool false)), (200, .und), (201, .und)]) (objs := []) rfl (by simp) rfl (by repeat' first | exact trivial | refine ⟨?_, ?_⟩) ⟨rfl, trivial, rfl, trivial, rfl, trivial, rfl, trivial, trivial⟩) ?_
                      refine awl_skip rfl rfl ?_
                      refine awl_skip rfl rfl ?_
                      refine awl_skip rfl rfl ?_
                      refine awl_skip rfl rfl ?_
                      refine awl_skip rfl rfl ?_
                      refine awl_skip rfl rfl ?_
                      refine awl_skip rfl rfl ?_
                      refine awl_skip rfl rfl ?_
                      refine awl_val hτ rfl rfl rfl ?_
                      refine awl_val hτ rfl rfl rfl ?_
                      refine awl_nil ?_
                      refine aw_weak (weak_ofP [] (l := [(4, .d (.bool false))]) (objs := []) rfl (by simp) rfl (by repeat' first | exact trivial | refine ⟨?_, ?_⟩) ⟨rfl, trivial, trivial⟩) ?_
                      refine aw_ret ?_
                      have hr := Option.some.inj h
                      subst hr
                      exact ret_objs (.inr rfl) [] (objs' := []) (new := []) rfl (by simp) (by simp) rfl (by repeat' first | exact trivial | refine ⟨?_, ?_⟩) rfl rfl (by repeat' first | exact trivial | refine ⟨?_, ?_⟩) (fun _ => ⟨by simp [V.flat, V.flatA, V.flatC, D.flat], flat_nil⟩) ⟨rfl, rfl, rfl⟩
                  · have h := if_bf h hb132
                    refine awl_skip rfl rfl ?_
                    refine awl_skip rfl rfl ?_
                    refine awl_skip rfl rfl ?_
                    refine awl_skip rfl rfl ?_
                    refine awl_skip rfl rfl ?_
                    refine awl_val hτ rfl rfl rfl ?_
                    refine awl_val hτ rfl rfl rfl ?_
                    refine awl_skip rfl rfl ?_
                    refine awl_skip rfl rfl ?_
                    refine awl_skip rfl rfl ?_
                    refine awl_weak (weak_ofP [] (l := [(19, .d (.cx .f32 x120.re x120.im)), (198, .d (.bool false)), (200, .und), (201, .und)]) (objs := []) rfl (by simp) rfl (by repeat' first | exact trivial | refine ⟨?_, ?_⟩) ⟨rfl, trivial, rfl, trivial, rfl, trivial, rfl, trivial, trivial⟩) ?_
                    refine awl_skip rfl rfl ?_
                    refine awl_skip rfl rfl ?_
                    refine awl_skip rfl rfl ?_
                    refine awl_skip rfl rfl ?_
                    refine awl_skip rfl rfl ?_
                    refine awl_skip rfl rfl ?_
                    refine awl_skip rfl rfl ?_
                    refine awl_skip rfl rfl ?_
                    refine awl_val hτ rfl rfl rfl ?_
                    refine awl_val hτ rfl rfl rfl ?_
                    refine awl_nil ?_
                    refine aw_weak (weak_ofP [] (l := [(4, .d (.bool false))]) (objs := []) rfl (by simp) rfl (by repeat' first | exact trivial | refine ⟨?_, ?_⟩) ⟨rfl, trivial, trivial⟩) ?_
                    refine aw_ret ?_
                    have hr := Option.some.inj h
                    subst hr
                    exact ret_objs (.inr rfl) [] (objs' := []) (new := []) rfl (by simp) (by simp) rfl (by repeat' first | exact trivial | refine ⟨?_, ?_⟩) rfl rfl (by repeat' first | exact trivial | refine ⟨?_, ?_⟩) (fun _ => ⟨by simp [V.flat, V.flatA, V.flatC, D.flat], flat_nil⟩) ⟨rfl, rfl, rfl⟩
                · have h := if_bf h hb129
                  refine awl_skip rfl rfl ?_
                  refine awl_skip rfl rfl ?_
                  refine awl_skip rfl rfl ?_
                  refine awl_skip rfl rfl ?_
                  refine awl_weak (weak_ofP [] (l := [(19, .d (.cx .f32 x120.re x120.im)), (185, .d (.bool false)), (189, .und)]) (objs := []) rfl (by simp) rfl (by repeat' first | exact trivial | refine ⟨?_, ?_⟩) ⟨rfl, trivial, rfl, trivial, rfl, trivial, trivial⟩) ?_
                  refine awl_val hτ rfl rfl rfl ?_
                  refine awl_val hτ rfl rfl rfl ?_
                  refine awl_skip rfl rfl ?_
                  refine awl_skip rfl rfl ?_
                  refine awl_skip rfl rfl ?_
                  refine awl_skip rfl rfl ?_
                  refine awl_skip rfl rfl ?_
                  refine awl_val hτ rfl rfl rfl ?_
                  refine awl_val hτ rfl rfl rfl ?_
                  refine awl_skip rfl rfl ?_
                  refine awl_skip rfl rfl ?_
                  refine awl_skip rfl rfl ?_
                  refine awl_weak (weak_ofP [] (l := [(19, .d (.cx .f32 x120.re x120.im)), (198, .d (.bool false)), (200, .und), (201, .und)]) (objs := []) rfl (by simp) rfl (by repeat' first | exact trivial | refine ⟨?_, ?_⟩) ⟨rfl, trivial, rfl, trivial, rfl, trivial, rfl, trivial, trivial⟩) ?_
                  refine awl_skip rfl rfl ?_
                  refine awl_skip rfl rfl ?_
                  refine awl_skip rfl rfl ?_
                  refine awl_skip rfl rfl ?_
                  refine awl_skip rfl rfl ?_
                  refine awl_skip rfl rfl ?_
                  refine awl_skip rfl rfl ?_
                  refine awl_skip rfl rfl ?_
                  refine awl_val hτ rfl rfl rfl ?_
                  refine awl_val hτ rfl rfl rfl ?_
                  refine awl_nil ?_
                  refine aw_weak (weak_ofP [] (l := [(4, .d (.bool false))]) (objs := []) rfl (by simp) rfl (by repeat' first | exact trivial | refine ⟨?_, ?_⟩) ⟨rfl, trivial, trivial⟩) ?_
                  refine aw_ret ?_
                  have hr := Option.some.inj h
                  subst hr
                  exact ret_objs (.inr rfl) [] (objs' := []) (new := []) rfl (by simp) (by simp) rfl (by repeat' first | exact trivial | refine ⟨?_, ?_⟩) rfl rfl (by repeat' first | exact trivial | refine ⟨?_, ?_⟩) (fun _ => ⟨by simp [V.flat, V.flatA, V.flatC, D.flat], flat_nil⟩) ⟨rfl, rfl, rfl⟩
              · have h := if_bf h hb127
                refine awl_skip rfl rfl ?_
                refine awl_skip rfl rfl ?_
                refine awl_skip rfl rfl ?_
                refine awl_val hτ rfl rfl rfl ?_
                refine awl_val hτ rfl rfl rfl ?_
                refine awl_skip rfl rfl ?_
                refine awl_skip rfl rfl ?_
                refine awl_skip rfl rfl ?_
                refine awl_skip rfl rfl ?_
                refine awl_weak (weak_ofP [] (l := [(19, .d (.cx .f32 x120.re x120.im)), (185, .d (.bool false)), (189, .und)]) (objs := []) rfl (by simp) rfl (by repeat' first | exact trivial | refine ⟨?_, ?_⟩) ⟨rfl, trivial, rfl, trivial, rfl, trivial, trivial⟩) ?_
                refine awl_val hτ rfl rfl rfl ?_
                refine awl_val hτ rfl rfl rfl ?_
                refine awl_skip rfl rfl ?_
                refine awl_skip rfl rfl ?_
                refine awl_skip rfl rfl ?_
                refine awl_skip rfl rfl ?_
                refine awl_skip rfl rfl ?_
                refine awl_val hτ rfl rfl rfl ?_
                refine awl_val hτ rfl rfl rfl ?_
                refine awl_skip rfl rfl ?_
                refine awl_skip rfl rfl ?_
                refine awl_skip rfl rfl ?_
                refine awl_weak (weak_ofP [] (l := [(19, .d (.cx .f32 x120.re x120.im)), (198, .d (.bool false)), (200, .und), (201, .und)]) (objs := []) rfl (by simp) rfl (by repeat' first | exact trivial | refine ⟨?_, ?_⟩) ⟨rfl, trivial, rfl, trivial, rfl, trivial, rfl, trivial, trivial⟩) ?_
                refine awl_skip rfl rfl ?_
                refine awl_skip rfl rfl ?_
                refine awl_skip rfl rfl ?_
                refine awl_skip rfl rfl ?_
                refine awl_skip rfl rfl ?_
                refine awl_skip rfl rfl ?_
                refine awl_skip rfl rfl ?_
                refine awl_skip rfl rfl ?_
                refine awl_val hτ rfl rfl rfl ?_
                refine awl_val hτ rfl rfl rfl ?_
                refine awl_nil ?_
                refine aw_weak (weak_ofP [] (l := [(4, .d (.bool false))]) (objs := []) rfl (by simp) rfl (by repeat' first | exact trivial | refine ⟨?_, ?_⟩) ⟨rfl, trivial, trivial⟩) ?_
                refine aw_ret ?_
                have hr := Option.some.inj h
                subst hr
                exact ret_objs (.inr rfl) [] (objs' := []) (new := []) rfl (by simp) (by simp) rfl (by repeat' first | exact trivial | refine ⟨?_, ?_⟩) rfl rfl (by repeat' first | exact trivial | refine ⟨?_, ?_⟩) (fun _ => ⟨by simp [V.flat, V.flatA, V.flatC, D.flat], flat_nil⟩) ⟨rfl, rfl, rfl⟩
            · have h := if_bf h hb125
              refine awl_skip rfl rfl ?_
              refine awl_skip rfl rfl ?_
              refine awl_skip rfl rfl ?_
              refine awl_val hτ rfl rfl rfl ?_
              refine awl_weak (weak_ofP [] (l := [(16, .d (.fl .f32 x117)), (17, .d (.fl .f32 x119.1)), (19, .d (.cx .f32 x120.re x120.im)), (20, .d (.cx .f64 x121 x122)), (179, .d (.bool false))]) (objs := []) rfl (by simp) rfl (by repeat' first | exact trivial | refine ⟨?_, ?_⟩) ⟨rfl, trivial, rfl, trivial, rfl, trivial, rfl, trivial, rfl, trivial, trivial⟩) ?_
              refine awl_val hτ rfl rfl rfl ?_
              refine awl_skip rfl rfl ?_
              refine awl_skip rfl rfl ?_
              refine awl_skip rfl rfl ?_
              refine awl_val hτ rfl rfl rfl ?_
              refine awl_val hτ rfl rfl rfl ?_
              refine awl_skip rfl rfl ?_
              refine awl_skip rfl rfl ?_
              refine awl_skip rfl rfl ?_
              refine awl_skip rfl rfl ?_
              refine awl_val hτ rfl rfl rfl ?_
              refine awl_val hτ rfl rfl rfl ?_
              refine awl_weak (weak_ofP [] (l := [(19, .d (.cx .f32 x120.re x120.im)), (191, .d (.bool false))]) (objs := []) rfl (by simp) rfl (by repeat' first | exact trivial | refine ⟨?_, ?_⟩) ⟨rfl, trivial, rfl, trivial, trivial⟩) ?_
              refine awl_skip rfl rfl ?_
              refine awl_skip rfl rfl ?_
              refine awl_skip rfl rfl ?_
              refine awl_skip rfl rfl ?_
              refine awl_skip rfl rfl ?_
              refine awl_val hτ rfl rfl rfl ?_
              refine awl_val hτ rfl rfl rfl ?_
              refine awl_skip rfl rfl ?_
              refine awl_skip rfl rfl ?_
              refine awl_skip rfl rfl ?_
              refine awl_skip rfl rfl ?_
              refine awl_skip rfl rfl ?_
              refine awl_weak (weak_ofP [] (l := [(19, .d (.cx .f32 x120.re x120.im)), (198, .d (.bool false)), (200, .und), (203, .und)]) (objs := []) rfl (by simp) rfl (by repeat' first | exact trivial | refine ⟨?_, ?_⟩) ⟨rfl, trivial, rfl, trivial, rfl, trivial, rfl, trivial, trivial⟩) ?_
              refine awl_skip rfl rfl ?_
              refine awl_skip rfl rfl ?_
              refine awl_skip rfl rfl ?_
              refine awl_skip rfl rfl ?_
              refine awl_skip rfl rfl ?_
              refine awl_skip rfl rfl ?_
              refine awl_val hτ rfl rfl rfl ?_
              refine awl_val hτ rfl rfl rfl ?_
              refine awl_nil ?_
              refine aw_weak (weak_ofP [] (l := [(4, .d (.bool false))]) (objs := []) rfl (by simp) rfl (by repeat' first | exact trivial | refine ⟨?_, ?_⟩) ⟨rfl, trivial, trivial⟩) ?_
              refine aw_ret ?_
              have hr := Option.some.inj h
              subst hr
              exact ret_objs (.inr rfl) [] (objs' := []) (new := []) rfl (by simp) (by simp) rfl (by repeat' first | exact trivial | refine ⟨?_, ?_⟩) rfl rfl (by repeat' first | exact trivial | refine ⟨?_, ?_⟩) (fun _ => ⟨by simp [V.flat, V.flatA, V.flatC, D.flat], flat_nil⟩) ⟨rfl, rfl, rfl⟩
          · have h := if_bf h hb124
            refine awl_skip rfl rfl ?_
            refine awl_val hτ rfl rfl rfl ?_
            refine awl_val hτ rfl rfl rfl ?_
            refine awl_skip rfl rfl ?_
            refine awl_skip rfl rfl ?_
            refine awl_skip rfl rfl ?_
            refine awl_val hτ rfl rfl rfl ?_
            refine awl_weak (weak_ofP [] (l := [(16, .d (.fl .f32 x117)), (17, .d (.fl .f32 x119.1)), (19, .d (.cx .f32 x120.re x120.im)), (20, .d (.cx .f64 x121 x122)), (179, .d (.bool false))]) (objs := []) rfl (by simp) rfl (by repeat' first | exact trivial | refine ⟨?_, ?_⟩) ⟨rfl, trivial, rfl, trivial, rfl, trivial, rfl, trivial, rfl, trivial, trivial⟩) ?_
            refine awl_val hτ rfl rfl rfl ?_
            refine awl_skip rfl rfl ?_
            refine awl_skip rfl rfl ?_
            refine awl_skip rfl rfl ?_
            refine awl_val hτ rfl rfl rfl ?_
            refine awl_val hτ rfl rfl rfl ?_
            refine awl_skip rfl rfl ?_
            refine awl_skip rfl rfl ?_
            refine awl_skip rfl rfl ?_
            refine awl_skip rfl rfl ?_
            refine awl_val hτ rfl rfl rfl ?_
            refine awl_val hτ rfl rfl rfl ?_
            refine awl_weak (weak_ofP [] (l := [(19, .d (.cx .f32 x120.re x120.im)), (191, .d (.bool false))]) (objs := []) rfl (by simp) rfl (by repeat' first | exact trivial | refine ⟨?_, ?_⟩) ⟨rfl, trivial, rfl, trivial, trivial⟩) ?_
            refine awl_skip rfl rfl ?_
            refine awl_skip rfl rfl ?_
            refine awl_skip rfl rfl ?_
            refine awl_skip rfl rfl ?_
            refine awl_skip rfl rfl ?_
            refine awl_val hτ rfl rfl rfl ?_
            refine awl_val hτ rfl rfl rfl ?_
            refine awl_skip rfl rfl ?_
            refine awl_skip rfl rfl ?_
            refine awl_skip rfl rfl ?_
            refine awl_skip rfl rfl ?_
            refine awl_skip rfl rfl ?_
            refine awl_weak (weak_ofP [] (l := [(19, .d (.cx .f32 x120.re x120.im)), (198, .d (.bool false)), (200, .und), (203, .und)]) (objs := []) rfl (by simp) rfl (by repeat' first | exact trivial | refine ⟨?_, ?_⟩) ⟨rfl, trivial, rfl, trivial, rfl, trivial, rfl, trivial, trivial⟩) ?_
            refine awl_skip rfl rfl ?_
            refine awl_skip rfl rfl ?_
            refine awl_skip rfl rfl ?_
            refine awl_skip rfl rfl ?_
            refine awl_skip rfl rfl ?_
            refine awl_skip rfl rfl ?_
            refine awl_val hτ rfl rfl rfl ?_
            refine awl_val hτ rfl rfl rfl ?_
            refine awl_nil ?_
            refine aw_weak (weak_ofP [] (l := [(4, .d (.bool false))]) (objs := []) rfl (by simp) rfl (by repeat' first | exact trivial | refine ⟨?_, ?_⟩) ⟨rfl, trivial, trivial⟩) ?_
            refine aw_ret ?_
            have hr := Option.some.inj h
            subst hr
            exact ret_objs (.inr rfl) [] (objs' := []) (new := []) rfl (by simp) (by simp) rfl (by repeat' first | exact trivial | refine ⟨?_, ?_⟩) rfl rfl (by repeat' first | exact trivial | refine ⟨?_, ?_⟩) (fun _ => ⟨by simp [V.flat, V.flatA, V.flatC, D.flat], flat_nil⟩) ⟨rfl, rfl, rfl⟩
        · have h := if_bf h hb123
          refine awl_skip rfl rfl ?_
          refine awl_val hτ rfl rfl rfl ?_
          refine awl_val hτ rfl rfl rfl ?_
          refine awl_skip rfl rfl ?_
          refine awl_val hτ rfl rfl rfl ?_
          refine awl_val hτ rfl rfl rfl ?_
          refine awl_skip rfl rfl ?_
          refine awl_skip rfl rfl ?_
          refine awl_skip rfl rfl ?_
          refine awl_val hτ rfl rfl rfl ?_
          refine awl_weak (weak_ofP [] (l := [(16, .d (.fl .f32 x117)), (17, .d (.fl .f32 x119.1)), (19, .d (.cx .f32 x120.re x120.im)), (20, .d (.cx .f64 x121 x122)), (179, .d (.bool false))]) (objs := []) rfl (by simp) rfl (by repeat' first | exact trivial | refine ⟨?_, ?_⟩) ⟨rfl, trivial, rfl, trivial, rfl, trivial, rfl, trivial, rfl, trivial, trivial⟩) ?_
          refine awl_val hτ rfl rfl rfl ?_
          refine awl_skip rfl rfl ?_
          refine awl_skip rfl rfl ?_
          refine awl_skip rfl rfl ?_
          refine awl_val hτ rfl rfl rfl ?_
          refine awl_val hτ rfl rfl rfl ?_
          refine awl_skip rfl rfl ?_
          refine awl_skip rfl rfl ?_
          refine awl_skip rfl rfl ?_
          refine awl_skip rfl rfl ?_
          refine awl_val hτ rfl rfl rfl ?_
          refine awl_val hτ rfl rfl rfl ?_
          refine awl_weak (weak_ofP [] (l := [(19, .d (.cx .f32 x120.re x120.im)), (191, .d (.bool false))]) (objs := []) rfl (by simp) rfl (by repeat' first | exact trivial | refine ⟨?_, ?_⟩) ⟨rfl, trivial, rfl, trivial, trivial⟩) ?_
          refine awl_skip rfl rfl ?_
          refine awl_skip rfl rfl ?_
          refine awl_skip rfl rfl ?_
          refine awl_skip rfl rfl ?_
          refine awl_skip rfl rfl ?_
          refine awl_val hτ rfl rfl rfl ?_
          refine awl_val hτ rfl rfl rfl ?_
          refine awl_skip rfl rfl ?_
          refine awl_skip rfl rfl ?_
          refine awl_skip rfl rfl ?_
          refine awl_skip rfl rfl ?_
          refine awl_skip rfl rfl ?_
          refine awl_weak (weak_ofP [] (l := [(19, .d (.cx .f32 x120.re x120.im)), (198, .d (.bool false)), (200, .und), (203, .und)]) (objs := []) rfl (by simp) rfl (by repeat' first | exact trivial | refine ⟨?_, ?_⟩) ⟨rfl, trivial, rfl, trivial, rfl, trivial, rfl, trivial, trivial⟩) ?_
          refine awl_skip rfl rfl ?_
          refine awl_skip rfl rfl ?_
          refine awl_skip rfl rfl ?_
          refine awl_skip rfl rfl ?_
          refine awl_skip rfl rfl ?_
          refine awl_skip rfl rfl ?_
          refine awl_val hτ rfl rfl rfl ?_
          refine awl_val hτ rfl rfl rfl ?_
          refine awl_nil ?_
          refine aw_weak (weak_ofP [] (l := [(4, .d (.bool false))]) (objs := []) rfl (by simp) rfl (by repeat' first | exact trivial | refine ⟨?_, ?_⟩) ⟨rfl, trivial, trivial⟩) ?_
          refine aw_ret ?_
          have hr := Option.some.inj h
          subst hr
          exact ret_objs (.inr rfl) [] (objs' := []) (new := []) rfl (by simp) (by simp) rfl (by repeat' first | exact trivial | refine ⟨?_, ?_⟩) rfl rfl (by repeat' first | exact trivial | refine ⟨?_, ?_⟩) (fun _ => ⟨by simp [V.flat, V.flatA, V.flatC, D.flat], flat_nil⟩) ⟨rfl, rfl, rfl⟩
      · refine aw_seq ?_
        refine aw_hk1 (ι := Bool) (fun v149 => St.of [(0, .d (.sl false (code_.map eIntu8))), (1, .d (.sl false (more_.map eIntu8))), (136, .d (.bool v149))] [] f3.ntmps 0) (fun v149 => m_laws_FnProducts_j3 n code_ more_ v149 = some r) ?_ (fun hk151 => ?_)
        · rintro v149 h
          replace h : m_laws_FnProducts_j3 n code_ more_ v149 = some r := h
          unfold m_laws_FnProducts_j3 at h
          refine aw_cond rfl (fun hc150 => ?_) (fun hc150 => ?_)
          · have h := if_bt h hc150
            refine aw_seq ?_
            refine aw_region ?_
            refine awl_val hτ rfl rfl rfl ?_
            refine awl_nil ?_
            refine aw_weak (weak_ofP [] (l := [(4, .d (.bool false))]) (objs := []) rfl (by simp) rfl (by repeat' first | exact trivial | refine ⟨?_, ?_⟩) ⟨rfl, trivial, trivial⟩) ?_
            refine aw_ret ?_
            have hr := Option.some.inj h
            subst hr
            exact ret_objs (.inr rfl) [] (objs' := []) (new := []) rfl (by simp) (by simp) rfl (by repeat' first | exact trivial | refine ⟨?_, ?_⟩) rfl rfl (by repeat' first | exact trivial | refine ⟨?_, ?_⟩) (fun _ => ⟨by simp [V.flat, V.flatA, V.flatC, D.flat], flat_nil⟩) ⟨rfl, rfl, rfl⟩
          · have h := if_bf h hc150
            refine aw_skip ?_
            refine aw_weak (weak_ofP [] (l := [(0, .d (.sl false (code_.map eIntu8))), (1, .d (.sl false (more_.map eIntu8)))]) (objs := []) rfl (by simp) rfl (by repeat' first | exact trivial | refine ⟨?_, ?_⟩) ⟨rfl, trivial, rfl, trivial, trivial⟩) ?_
            exact hk141 () h
        · refine aw_seq ?_
          refine aw_region ?_
          refine awl_val hτ rfl rfl rfl ?_
          refine awl_val hτ rfl rfl rfl ?_
          refine awl_val hτ rfl rfl rfl ?_
          refine awl_split 122 rfl (fun hb152 => ?_) (fun hb152 => ?_)
          · have hb152 := not_t hb152
            have h := if_bf h hb152
            refine awl_val hτ rfl rfl rfl ?_
            refine awl_val hτ rfl rfl rfl ?_
            refine bnd_elim h fun x153 hx153 h => ?_
            refine awl_callP hτ false [] rfl rfl rfl (enterOk func14 rfl rfl) rfl rfl (by simp) ⟨trivial, trivial, trivial⟩ (by repeat' first | exact trivial | refine ⟨?_, ?_⟩) (impl_QuotientOf_ok n x81 x80 hx153) ?_
            rintro r0 o0 n0 ⟨rfl, rfl, rfl⟩ -
            refine awl_val hτ rfl rfl rfl ?_
            refine awl_val hτ rfl rfl rfl ?_
            refine awl_val hτ rfl rfl rfl ?_
            refine awl_val hτ rfl rfl rfl ?_
            refine awl_split 129 rfl (fun hb154 => ?_) (fun hb154 => ?_)
            · have hb154 := not_t hb154
              have h := if_bf h hb154
              refine awl_skip rfl rfl ?_
              refine awl_skip rfl rfl ?_
              refine awl_weak (weak_ofP [] (l := [(0, .d (.sl false (code_.map eIntu8))), (1, .d (.sl false (more_.map eIntu8))), (5, .d (.cx .f32 x78.re x78.im)), (129, .d (.bool true)), (131, .und)]) (objs := []) rfl (by simp) rfl (by repeat' first | exact trivial | refine ⟨?_, ?_⟩) ⟨rfl, trivial, rfl, trivial, rfl, trivial, rfl, trivial, rfl, trivial, trivial⟩) ?_
              refine awl_skip rfl rfl ?_
              refine awl_skip rfl rfl ?_
              refine awl_skip rfl rfl ?_
              refine awl_skip rfl rfl ?_
              refine awl_val hτ rfl rfl rfl ?_
              refine awl_nil ?_
              refine aw_weak (weak_ofP [] (l := [(0, .d (.sl false (code_.map eIntu8))), (1, .d (.sl false (more_.map eIntu8))), (136, .d (.bool true))]) (objs := []) rfl (by simp) rfl (by repeat' first | exact trivial | refine ⟨?_, ?_⟩) ⟨rfl, trivial, rfl, trivial, rfl, trivial, trivial⟩) ?_
              exact hk151 true h
            · have hb154 := not_f hb154
              have h := if_bt h hb154
              refine awl_val hτ rfl rfl rfl ?_
              refine bnd_elim h fun x155 hx155 h => ?_
              refine awl_callP hτ false [] rfl rfl rfl (enterOk func15 rfl rfl) rfl rfl (by simp) ⟨trivial, trivial, trivial⟩ (by repeat' first | exact trivial | refine ⟨?_, ?_⟩) (impl_ScaleComplex_ok n x78 (1073741824 : Nat) hx155) ?_
              rintro r0 o0 n0 ⟨rfl, rfl, rfl⟩ -
              refine awl_weak (weak_ofP [] (l := [(0, .d (.sl false (code_.map eIntu8))), (1, .d (.sl false (more_.map eIntu8))), (5, .d (.cx .f32 x78.re x78.im)), (129, .d (.bool false)), (131, .d (.cx .f32 x155.re x155.im))]) (objs := []) rfl (by simp) rfl (by repeat' first | exact trivial | refine ⟨?_, ?_⟩) ⟨rfl, trivial, rfl, trivial, rfl, trivial, rfl, trivial, rfl, trivial, trivial⟩) ?_
              refine awl_val hτ rfl rfl rfl ?_
              refine awl_val hτ rfl rfl rfl ?_
              refine awl_val hτ rfl rfl rfl ?_
              refine awl_val hτ rfl rfl rfl ?_
              refine awl_val hτ rfl rfl rfl ?_
              refine awl_nil ?_
              refine aw_weak (weak_ofP [] (l := [(0, .d (.sl false (code_.map eIntu8))), (1, .d (.sl false (more_.map eIntu8))), (136, .d (.bool (!(fcmp .eql .f32 x155.re (farith .add .f32 x78.re x78.re) && fcmp .eql .f32 x155.im (farith .add .f32 x78.im x78.im)))))]) (objs := []) rfl (by simp) rfl (by repeat' first | exact trivial | refine ⟨?_, ?_⟩) ⟨rfl, trivial, rfl, trivial, rfl, trivial, trivial⟩) ?_
              exact hk151 (!(fcmp .eql .f32 x155.re (farith .add .f32 x78.re x78.re) && fcmp .eql .f32 x155.im (farith .add .f32 x78.im x78.im))) h
          · have hb152 := not_f hb152
            have h := if_bt h hb152
            refine awl_skip rfl rfl ?_
            refine awl_skip rfl rfl ?_
            refine awl_skip rfl rfl ?_
            refine awl_skip rfl rfl ?_
            refine awl_skip rfl rfl ?_
            refine awl_val hτ rfl rfl rfl ?_
            refine awl_val hτ rfl rfl rfl ?_
            refine awl_val hτ rfl rfl rfl ?_
            refine bnd_elim h fun x156 hx156 h => ?_
            refine awl_callP hτ false [] rfl rfl rfl (enterOk func15 rfl rfl) rfl rfl (by simp) ⟨trivial, trivial, trivial⟩ (by repeat' first | exact trivial | refine ⟨?_, ?_⟩) (impl_ScaleComplex_ok n x78 (1073741824 : Nat) hx156) ?_
            rintro r0 o0 n0 ⟨rfl, rfl, rfl⟩ -
            refine awl_weak (weak_ofP [] (l := [(0, .d (.sl false (code_.map eIntu8))), (1, .d (.sl false (more_.map eIntu8))), (5, .d (.cx .f32 x78.re x78.im)), (129, .d (.bool false)), (131, .d (.cx .f32 x156.re x156.im))]) (objs := []) rfl (by simp) rfl (by repeat' first | exact trivial | refine ⟨?_, ?_⟩) ⟨rfl, trivial, rfl, trivial, rfl, trivial, rfl, trivial, rfl, trivial, trivial⟩) ?_
            refine awl_val hτ rfl rfl rfl ?_
            refine awl_val hτ rfl rfl rfl ?_
            refine awl_val hτ rfl rfl rfl ?_
            refine awl_val hτ rfl rfl rfl ?_
            refine awl_val hτ rfl rfl rfl ?_
            refine awl_nil ?_
            refine aw_weak (weak_ofP [] (l := [(0, .d (.sl false (code_.map eIntu8))), (1, .d (.sl false (more_.map eIntu8))), (136, .d (.bool (!(fcmp .eql .f32 x156.re (farith .add .f32 x78.re x78.re) && fcmp .eql .f32 x156.im (farith .add .f32 x78.im x78.im)))))]) (objs := []) rfl (by simp) rfl (by repeat' first | exact trivial | refine ⟨?_, ?_⟩) ⟨rfl, trivial, rfl, trivial, rfl, trivial, trivial⟩) ?_
            exact hk151 (!(fcmp .eql .f32 x156.re (farith .add .f32 x78.re x78.re) && fcmp .eql .f32 x156.im (farith .add .f32 x78.im x78.im))) h
    · refine aw_seq ?_
      refine aw_hk1 (ι := Bool) (fun v170 => St.of [(0, .d (.sl false (code_.map eIntu8))), (1, .d (.sl false (more_.map eIntu8))), (5, .d (.cx .f32 x78.re x78.im)), (6, .d (.cx .f32 x80.re x80.im)), (7, .d (.cx .f32 x81.re x81.im)), (119, .d (.bool v170))] [] f3.ntmps 0) (fun v170 => m_laws_FnProducts_j4 n code_ more_ x78 x80 x81 v170 = some r) ?_ (fun hk172 => ?_)
      · rintro v170 h
        replace h : m_laws_FnProducts_j4 n code_ more_ x78 x80 x81 v170 = some r := h
        unfold m_laws_FnProducts_j4 at h
        refine aw_cond rfl (fun hc171 => ?_) (fun hc171 => ?_)
        · have h := if_bt h hc171
          refine aw_seq ?_
          refine aw_region ?_
          refine awl_val hτ rfl rfl rfl ?_
          refine awl_nil ?_
          refine aw_weak (weak_ofP [] (l := [(4, .d (.bool false))]) (objs := []) rfl (by simp) rfl (by repeat' first | exact trivial | refine ⟨?_, ?_⟩) ⟨rfl, trivial, trivial⟩) ?_
          refine aw_ret ?_
          have hr := Option.some.inj h
          subst hr
          exact ret_objs (.inr rfl) [] (objs' := []) (new := []) rfl (by simp) (by simp) rfl (by repeat' first | exact trivial | refine ⟨?_, ?_⟩) rfl rfl (by repeat' first | exact trivial | refine ⟨?_, ?_⟩) (fun _ => ⟨by simp [V.flat, V.flatA, V.flatC, D.flat], flat_nil⟩) ⟨rfl, rfl, rfl⟩
        · have h := if_bf h hc171
          refine aw_skip ?_
          refine aw_weak (weak_ofP [] (l := [(0, .d (.sl false (code_.map eIntu8))), (1, .d (.sl false (more_.map eIntu8))), (5, .d (.cx .f32 x78.re x78.im)), (6, .d (.cx .f32 x80.re x80.im)), (7, .d (.cx .f32 x81.re x81.im))]) (objs := []) rfl (by simp) rfl (by repeat' first | exact trivial | refine ⟨?_, ?_⟩) ⟨rfl, trivial, rfl, trivial, rfl, trivial, rfl, trivial, rfl, trivial, trivial⟩) ?_
          exact hk157 () h
      · refine aw_seq ?_
        refine aw_region ?_
        refine awl_val hτ rfl rfl rfl ?_
        refine awl_val hτ rfl rfl rfl ?_
        refine awl_val hτ rfl rfl rfl ?_
        refine awl_val hτ rfl rfl rfl ?_
        refine awl_val hτ rfl rfl rfl ?_
        refine awl_val hτ rfl rfl rfl ?_
        refine awl_val hτ rfl rfl rfl ?_
        refine awl_val hτ rfl rfl rfl ?_
        refine awl_weak (weak_ofP [] (l := [(0, .d (.sl false (code_.map eIntu8))), (1, .d (.sl false (more_.map eIntu8))), (5, .d (.cx .f32 x78.re x78.im)), (6, .d (.cx .f32 x80.re x80.im)), (7, .d (.cx .f32 x81.re x81.im)), (10, .d (.int .i64 (w64 ((w64 (x90 * x91)) + (w64 (x92 * x93)))))), (87, .d (.bool (!(fcmp .eql .f32 x81.re (FloatKind.nearest .f32 (w64 ((w64 (x82 * x83)) - (w64 (x84 * x85))))) && fcmp .eql .f32 x81.im (FloatKind.nearest .f32 (w64 ((w64 (x86 * x87)) + (w64 (x88 * x89)))))))))]) (objs := []) rfl (by simp) rfl (by repeat' first | exact trivial | refine ⟨?_, ?_⟩) ⟨rfl, trivial, rfl, trivial, rfl, trivial, rfl, trivial, rfl, trivial, rfl, trivial, rfl, trivial, trivial⟩) ?_
        refine awl_split 87 rfl (fun hb173 => ?_) (fun hb173 => ?_)
        · have hb173 := not_t hb173
          have h := if_bf h hb173
          refine awl_skip rfl rfl ?_
          refine awl_skip rfl rfl ?_
          refine awl_skip rfl rfl ?_
          refine awl_skip rfl rfl ?_
          refine awl_skip rfl rfl ?_
          refine awl_val hτ rfl rfl rfl ?_
          refine awl_val hτ rfl rfl rfl ?_
          refine awl_skip rfl rfl ?_
          refine awl_skip rfl rfl ?_
          refine awl_skip rfl rfl ?_
          refine awl_skip rfl rfl ?_
          refine awl_skip rfl rfl ?_
          refine awl_weak (weak_ofP [] (l := [(0, .d (.sl false (code_.map eIntu8))), (1, .d (.sl false (more_.map eIntu8))), (5, .d (.cx .f32 x78.re x78.im)), (6, .d (.cx .f32 x80.re x80.im)), (7, .d (.cx .f32 x81.re x81.im)), (10, .d (.int .i64 (w64 ((w64 (x90 * x91)) + (w64 (x92 * x93)))))), (94, .d (.bool true)), (99, .und)]) (objs := []) rfl (by simp) rfl (by repeat' first | exact trivial | refine ⟨?_, ?_⟩) ⟨rfl, trivial, rfl, trivial, rfl, trivial, rfl, trivial, rfl, trivial, rfl, trivial, rfl, trivial, rfl, trivial, trivial⟩) ?_
          refine awl_val hτ rfl rfl rfl ?_
          refine awl_val hτ rfl rfl rfl ?_
          refine awl_skip rfl rfl ?_
          refine awl_skip rfl rfl ?_
          refine awl_skip rfl rfl ?_
          refine awl_skip rfl rfl ?_
          refine awl_skip rfl rfl ?_
          refine awl_skip rfl rfl ?_
          refine awl_skip rfl rfl ?_
          refine awl_skip rfl rfl ?_
          refine awl_val hτ rfl rfl rfl ?_
          refine awl_val hτ rfl rfl rfl ?_
          refine awl_weak (weak_ofP [] (l := [(0, .d (.sl false (code_.map eIntu8))), (1, .d (.sl false (more_.map eIntu8))), (5, .d (.cx .f32 x78.re x78.im)), (6, .d (.cx .f32 x80.re x80.im)), (7, .d (.cx .f32 x81.re x81.im)), (10, .d (.int .i64 (w64 ((w64 (x90 * x91)) + (w64 (x92 * x93)))))), (111, .d (.bool true))]) (objs := []) rfl (by simp) rfl (by repeat' first | exact trivial | refine ⟨?_, ?_⟩) ⟨rfl, trivial, rfl, trivial, rfl, trivial, rfl, trivial, rfl, trivial, rfl, trivial, rfl, trivial, trivial⟩) ?_
          refine awl_skip rfl rfl ?_
          refine awl_skip rfl rfl ?_
          refine awl_skip rfl rfl ?_
          refine awl_skip rfl rfl ?_
          refine awl_skip rfl rfl ?_
          refine awl_skip rfl rfl ?_
          refine awl_skip rfl rfl ?_
          refine awl_val hτ rfl rfl rfl ?_
          refine awl_nil ?_
          refine aw_weak (weak_ofP [] (l := [(0, .d (.sl false (code_.map eIntu8))), (1, .d (.sl false (more_.map eIntu8))), (5, .d (.cx .f32 x78.re x78.im)), (6, .d (.cx .f32 x80.re x80.im)), (7, .d (.cx .f32 x81.re x81.im)), (119, .d (.bool true))]) (objs := []) rfl (by simp) rfl (by repeat' first | exact trivial | refine ⟨?_, ?_⟩) ⟨rfl, trivial, rfl, trivial, rfl, trivial, rfl, trivial, rfl, trivial, rfl, trivial, trivial⟩) ?_
          exact hk172 true h
        · have hb173 := not_f hb173
          have h := if_bt h hb173
          refine awl_val hτ rfl rfl rfl ?_
          refine awl_val hτ rfl rfl rfl ?_
          refine bnd_elim h fun x174 hx174 h => ?_
          refine awl_callP hτ false [] rfl rfl rfl (enterOk func8 rfl rfl) rfl rfl (by simp) ⟨trivial, trivial, trivial⟩ (by repeat' first | exact trivial | refine ⟨?_, ?_⟩) (impl_MulComplex_ok n x80 x78 hx174) ?_
          rintro r0 o0 n0 ⟨rfl, rfl, rfl⟩ -
          refine awl_val hτ rfl rfl rfl ?_
          refine awl_val hτ rfl rfl rfl ?_
          refine awl_val hτ rfl rfl rfl ?_
          refine awl_val hτ rfl rfl rfl ?_
          refine awl_split 94 rfl (fun hb175 => ?_) (fun hb175 => ?_)
          · have hb175 := not_t hb175
            have h := if_bf h hb175
            refine awl_skip rfl rfl ?_
            refine awl_skip rfl rfl ?_
            refine awl_skip rfl rfl ?_
            refine awl_skip rfl rfl ?_
            refine awl_skip rfl rfl ?_
            refine awl_weak (weak_ofP [] (l := [(0, .d (.sl false (code_.map eIntu8))), (1, .d (.sl false (more_.map eIntu8))), (5, .d (.cx .f32 x78.re x78.im)), (6, .d (.cx .f32 x80.re x80.im)), (7, .d (.cx .f32 x81.re x81.im)), (10, .d (.int .i64 (w64 ((w64 (x90 * x91)) + (w64 (x92 * x93)))))), (94, .d (.bool true)), (99, .und)]) (objs := []) rfl (by simp) rfl (by repeat' first | exact trivial | refine ⟨?_, ?_⟩) ⟨rfl, trivial, rfl, trivial, rfl, trivial, rfl, trivial, rfl, trivial, rfl, trivial, rfl, trivial, rfl, trivial, trivial⟩) ?_
            refine awl_val hτ rfl rfl rfl ?_
            refine awl_val hτ rfl rfl rfl ?_
            refine awl_skip rfl rfl ?_
            refine awl_skip rfl rfl ?_
            refine awl_skip rfl rfl ?_
            refine awl_skip rfl rfl ?_
            refine awl_skip rfl rfl ?_
            refine awl_skip rfl rfl ?_
            refine awl_skip rfl rfl ?_
            refine awl_skip rfl rfl ?_
            refine awl_val hτ rfl rfl rfl ?_
            refine awl_val hτ rfl rfl rfl ?_
            refine awl_weak (weak_ofP [] (l := [(0, .d (.sl false (code_.map eIntu8))), (1, .d (.sl false (more_.map eIntu8))), (5, .d (.cx .f32 x78.re x78.im)), (6, .d (.cx .f32 x80.re x80.im)), (7, .d (.cx .f32 x81.re x81.im)), (10, .d (.int .i64 (w64 ((w64 (x90 * x91)) + (w64 (x92 * x93)))))), (111, .d (.bool true))]) (objs := []) rfl (by simp) rfl (by repeat' first | exact trivial | refine ⟨?_, ?_⟩) ⟨rfl, trivial, rfl, trivial, rfl, trivial, rfl, trivial, rfl, trivial, rfl, trivial, rfl, trivial, trivial⟩) ?_
            refine awl_skip rfl rfl ?_
            refine awl_skip rfl rfl ?_
            refine awl_skip rfl rfl ?_
            refine awl_skip rfl rfl ?_
            refine awl_skip rfl rfl ?_
            refine awl_skip rfl rfl ?_
            refine awl_skip rfl rfl ?_
            refine awl_val hτ rfl rfl rfl ?_
            refine awl_nil ?_
            refine aw_weak (weak_ofP [] (l := [(0, .d (.sl false (code_.map eIntu8))), (1, .d (.sl false (more_.map eIntu8))), (5, .d (.cx .f32 x78.re x78.im)), (6, .d (.cx .f32 x80.re x80.im)), (7, .d (.cx .f32 x81.re x81.im)), (119, .d (.bool true))]) (objs := []) rfl (by simp) rfl (by repeat' first | exact trivial | refine ⟨?_, ?_⟩) ⟨rfl, trivial, rfl, trivial, rfl, trivial, rfl, trivial, rfl, trivial, rfl, trivial, trivial⟩) ?_
            exact hk172 true h
          · have hb175 := not_f hb175
            have h := if_bt h hb175
            refine awl_val hτ rfl rfl rfl ?_
            refine bnd_elim h fun x176 hx176 h => ?_
            refine awl_callP hτ false [] rfl rfl rfl (enterOk func9 rfl rfl) rfl rfl (by simp) ⟨trivial, trivial⟩ (by repeat' first | exact trivial | refine ⟨?_, ?_⟩) (impl_PowerOf_ok n x78 hx176) ?_
            rintro r0 o0 n0 ⟨rfl, rfl, rfl⟩ -
            refine awl_val hτ rfl rfl rfl ?_
            refine awl_val hτ rfl rfl rfl ?_
            refine awl_val hτ rfl rfl rfl ?_
            refine awl_weak (weak_ofP [] (l := [(0, .d (.sl false (code_.map eIntu8))), (1, .d (.sl false (more_.map eIntu8))), (5, .d (.cx .f32 x78.re x78.im)), (6, .d (.cx .f32 x80.re x80.im)), (7, .d (.cx .f32 x81.re x81.im)), (10, .d (.int .i64 (w64 ((w64 (x90 * x91)) + (w64 (x92 * x93)))))), (94, .d (.bool false)), (99, .d (.bool (fcmp .neq .f32 x176 (FloatKind.nearest .f32 (w64 ((w64 (x90 * x91)) + (w64 (x92 * x93))))))))]) (objs := []) rfl (by simp) rfl (by repeat' first | exact trivial | refine ⟨?_, ?_⟩) ⟨rfl, trivial, rfl, trivial, rfl, trivial, rfl, trivial, rfl, trivial, rfl, trivial, rfl, trivial, rfl, trivial, trivial⟩) ?_
            refine awl_val hτ rfl rfl rfl ?_
            refine awl_val hτ rfl rfl rfl ?_
            refine awl_split 101 rfl (fun hb177 => ?_) (fun hb177 => ?_)
            · have h := if_bt h hb177
              refine awl_skip rfl rfl ?_
              refine awl_skip rfl rfl ?_
              refine awl_skip rfl rfl ?_
              refine awl_skip rfl rfl ?_
              refine awl_skip rfl rfl ?_
              refine awl_skip rfl rfl ?_
              refine awl_skip rfl rfl ?_
              refine awl_skip rfl rfl ?_
              refine awl_val hτ rfl rfl rfl ?_
              refine awl_val hτ rfl rfl rfl ?_
              refine awl_weak (weak_ofP [] (l := [(0, .d (.sl false (code_.map eIntu8))), (1, .d (.sl false (more_.map eIntu8))), (5, .d (.cx .f32 x78.re x78.im)), (6, .d (.cx .f32 x80.re x80.im)), (7, .d (.cx .f32 x81.re x81.im)), (10, .d (.int .i64 (w64 ((w64 (x90 * x91)) + (w64 (x92 * x93)))))), (111, .d (.bool true))]) (objs := []) rfl (by simp) rfl (by repeat' first | exact trivial | refine ⟨?_, ?_⟩) ⟨rfl, trivial, rfl, trivial, rfl, trivial, rfl, trivial, rfl, trivial, rfl, trivial, rfl, trivial, trivial⟩) ?_
              refine awl_skip rfl rfl ?_
              refine awl_skip rfl rfl ?_
              refine awl_skip rfl rfl ?_
              refine awl_skip rfl rfl ?_
              refine awl_skip rfl rfl ?_
              refine awl_skip rfl rfl ?_
              refine awl_skip rfl rfl ?_
              refine awl_val hτ rfl rfl rfl ?_
              refine awl_nil ?_
              refine aw_weak (weak_ofP [] (l := [(0, .d (.sl false (code_.map eIntu8))), (1, .d (.sl false (more_.map eIntu8))), (5, .d (.cx .f32 x78.re x78.im)), (6, .d (.cx .f32 x80.re x80.im)), (7, .d (.cx .f32 x81.re x81.im)), (119, .d (.bool true))]) (objs := []) rfl (by simp) rfl (by repeat' first | exact trivial | refine ⟨?_, ?_⟩) ⟨rfl, trivial, rfl, trivial, rfl, trivial, rfl, trivial, rfl, trivial, rfl, trivial, trivial⟩) ?_
              exact hk172 true h
            · have h := if_bf h hb177
              refine awl_val hτ rfl rfl rfl ?_
              refine awl_val hτ rfl rfl rfl ?_
              refine bnd_elim h fun x178 hx178 h => ?_
              refine awl_callP hτ false [] rfl rfl rfl (enterOk func10 rfl rfl) rfl rfl (by simp) ⟨trivial, trivial⟩ (by repeat' first | exact trivial | refine ⟨?_, ?_⟩) (impl_ConjugateOf_ok n x78 hx178) ?_
              rintro r0 o0 n0 ⟨rfl, rfl, rfl⟩ -
              refine bnd_elim h fun x179 hx179 h => ?_
              refine awl_callP hτ false [] rfl rfl rfl (enterOk func8 rfl rfl) rfl rfl (by simp) ⟨trivial, trivial, trivial⟩ (by repeat' first | exact trivial | refine ⟨?_, ?_⟩) (impl_MulComplex_ok n x78 x178 hx179) ?_
              rintro r0 o0 n0 ⟨rfl, rfl, rfl⟩ -
              refine awl_val hτ rfl rfl rfl ?_
              refine awl_val hτ rfl rfl rfl ?_
              refine awl_val hτ rfl rfl rfl ?_
              refine awl_val hτ rfl rfl rfl ?_
              refine awl_val hτ rfl rfl rfl ?_
              refine awl_val hτ rfl rfl rfl ?_
              refine awl_weak (weak_ofP [] (l := [(0, .d (.sl false (code_.map eIntu8))), (1, .d (.sl false (more_.map eIntu8))), (5, .d (.cx .f32 x78.re x78.im)), (6, .d (.cx .f32 x80.re x80.im)), (7, .d (.cx .f32 x81.re x81.im)), (10, .d (.int .i64 (w64 ((w64 (x90 * x91)) + (w64 (x92 * x93)))))), (111, .d (.bool (!(fcmp .eql .f32 x179.re (FloatKind.nearest .f32 (w64 ((w64 (x90 * x91)) + (w64 (x92 * x93))))) && fcmp .eql .f32 x179.im (0 : Nat)))))]) (objs := []) rfl (by simp) rfl (by repeat' first | exact trivial | refine ⟨?_, ?_⟩) ⟨rfl, trivial, rfl, trivial, rfl, trivial, rfl, trivial, rfl, trivial, rfl, trivial, rfl, trivial, trivial⟩) ?_
              refine awl_split 111 rfl (fun hb180 => ?_) (fun hb180 => ?_)
              · have hb180 := not_t hb180
                have h := if_bf h hb180
                refine awl_skip rfl rfl ?_
                refine awl_skip rfl rfl ?_
                refine awl_skip rfl rfl ?_
                refine awl_skip rfl rfl ?_
                refine awl_skip rfl rfl ?_
                refine awl_skip rfl rfl ?_
                refine awl_skip rfl rfl ?_
                refine awl_val hτ rfl rfl rfl ?_
                refine awl_nil ?_
                refine aw_weak (weak_ofP [] (l := [(0, .d (.sl false (code_.map eIntu8))), (1, .d (.sl false (more_.map eIntu8))), (5, .d (.cx .f32 x78.re x78.im)), (6, .d (.cx .f32 x80.re x80.im)), (7, .d (.cx .f32 x81.re x81.im)), (119, .d (.bool true))]) (objs := []) rfl (by simp) rfl (by repeat' first | exact trivial | refine ⟨?_, ?_⟩) ⟨rfl, trivial, rfl, trivial, rfl, trivial, rfl, trivial, rfl, trivial, rfl, trivial, trivial⟩) ?_
                exact hk172 true h
              · have hb180 := not_f hb180
                have h := if_bt h hb180
                refine awl_val hτ rfl rfl rfl ?_
                refine bnd_elim h fun x181 hx181 h => ?_
                refine awl_callP hτ false [] rfl rfl rfl (enterOk func12 rfl rfl) rfl rfl (by simp) ⟨trivial, trivial⟩ (by repeat' first | exact trivial | refine ⟨?_, ?_⟩) (impl_LongOf_ok n x78 hx181) ?_
                rintro r0 o0 n0 ⟨rfl, rfl, rfl⟩ -
                refine awl_val hτ rfl rfl rfl ?_
                refine awl_val hτ rfl rfl rfl ?_
                refine bnd_elim h fun x182 hx182 h => ?_
                refine awl_callP hτ false [] rfl rfl rfl (enterOk func13 rfl rfl) rfl rfl (by simp) ⟨trivial, trivial⟩ (by repeat' first | exact trivial | refine ⟨?_, ?_⟩) (spec_RootNumber_ok n (FloatKind.nearest .f32 (w64 ((w64 (x90 * x91)) + (w64 (x92 * x93))))) hx182) ?_
                rintro r0 o0 n0 ⟨rfl, rfl, rfl⟩ -
                refine bnd_elim h fun x183 hx183 h => ?_
                refine awl_callP hτ false [] rfl rfl rfl (enterOk func11 rfl rfl) rfl rfl (by simp) ⟨trivial, trivial, trivial⟩ (by repeat' first | exact trivial | refine ⟨?_, ?_⟩) (spec_SameNumber_ok n x181 x182 hx183) ?_
                rintro r0 o0 n0 ⟨rfl, rfl, rfl⟩ -
                refine awl_val hτ rfl rfl rfl ?_
                refine awl_val hτ rfl rfl rfl ?_
                refine awl_nil ?_
                refine aw_weak (weak_ofP [] (l := [(0, .d (.sl false (code_.map eIntu8))), (1, .d (.sl false (more_.map eIntu8))), (5, .d (.cx .f32 x78.re x78.im)), (6, .d (.cx .f32 x80.re x80.im)), (7, .d (.cx .f32 x81.re x81.im)), (119, .d (.bool (!x183)))]) (objs := []) rfl (by simp) rfl (by repeat' first | exact trivial | refine ⟨?_, ?_⟩) ⟨rfl, trivial, rfl, trivial, rfl, trivial, rfl, trivial, rfl, trivial, rfl, trivial, trivial⟩) ?_
                exact hk172 (!x183) h
theorem laws_FnProducts_ok (n : Nat) (code_ : List Int) (more_ : List Int) {r : Bool} (h : m_laws_FnProducts n code_ more_ = some r) : ACall prog false 3 [.d (.sl false (code_.map eIntu8)), .d (.sl false (more_.map eIntu8))] [] (fun v o new => v = .d (.bool r) ∧ o = [] ∧ new = []) := laws_FnProducts_ok_fr0 false n code_ more_ h
theorem laws_FnProducts_ok_fr (n : Nat) (code_ : List Int) (more_ : List Int) {r : Bool} (h : m_laws_FnProducts n code_ more_ = some r) : ACall prog true 3 [.d (.sl false (code_.map eIntu8)), .d (.sl false (more_.map eIntu8))] [] (fun v o new => v = .d (.bool r) ∧ o = [] ∧ new = []) := laws_FnProducts_ok_fr0 true n code_ more_ h

end Go.Proofs.YtdgkahieegcmeaaDoor.AWN
