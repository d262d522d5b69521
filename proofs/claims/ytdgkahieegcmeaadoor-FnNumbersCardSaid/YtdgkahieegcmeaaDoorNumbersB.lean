/- Models and contracts, printed by program. -/
import Derived.Test.YtdgkahieegcmeaaDoorNumbersA
set_option linter.unusedVariables false
set_option linter.unusedSimpArgs false
set_option linter.unusedSectionVars false
set_option maxHeartbeats 2000000
namespace Go.Proofs.YtdgkahieegcmeaaDoor.AWN
open Go Go.Proofs.Tryd

def m_impl_AngleTurns_j7 (n : Nat) (v53 : Nat) : Option Nat :=
  (fconv .f64 .f32 v53).bind fun x54 =>
  some x54
def m_impl_AngleTurns_j6 (n : Nat) (y_ : Nat) (v51 : Nat) : Option Nat :=
  if (fcmp .lss .f32 y_ (0 : Nat)) = true then
    m_impl_AngleTurns_j7 n (fneg .f64 v51)
  else
    m_impl_AngleTurns_j7 n v51
def m_impl_AngleTurns_j5 (n : Nat) (y_ : Nat) (x_ : Nat) (v49 : Nat) : Option Nat :=
  if (fcmp .lss .f32 x_ (0 : Nat)) = true then
    m_impl_AngleTurns_j6 n y_ (farith .sub .f64 (4602678819172646912 : Nat) v49)
  else
    m_impl_AngleTurns_j6 n y_ v49
def m_impl_AngleTurns_j4 (n : Nat) (y_ : Nat) (x_ : Nat) (x31 : Nat) (x33 : Nat) (v42 : Nat) (v47 : Nat) : Option Nat :=
  if (fcmp .gtr .f64 x31 x33) = true then
    m_impl_AngleTurns_j5 n y_ x_ (farith .sub .f64 (4598175219545276416 : Nat) (farith .quo .f64 (farith .mul .f64 (4620693217682128896 : Nat) (farith .mul .f64 v42 v47)) (4618760256179416344 : Nat)))
  else
    m_impl_AngleTurns_j5 n y_ x_ (farith .quo .f64 (farith .mul .f64 (4620693217682128896 : Nat) (farith .mul .f64 v42 v47)) (4618760256179416344 : Nat))
def m_impl_AngleTurns_l8 (n : Nat) (y_ : Nat) (x_ : Nat) (x31 : Nat) (x33 : Nat) (v42 : Nat) : Nat → Nat → Int → Option Nat
  | 0, _, _ => none
  | m66 + 1, v62, v63 =>
    if v63 ≥ (1 : Int) then
      (m_impl_AngleTurns_l8 n y_ x_ x31 x33 v42 m66) (farith .sub .f64 (farith .quo .f64 (4607182418800017408 : Nat) (FloatKind.nearest .f64 v63)) (farith .mul .f64 (farith .mul .f64 v42 v42) v62)) (w64 (v63 - (2 : Int)))
    else
      m_impl_AngleTurns_j4 n y_ x_ x31 x33 v42 v62
def m_impl_AngleTurns_j3 (n : Nat) (y_ : Nat) (x_ : Nat) (x31 : Nat) (x33 : Nat) (v42 : Nat) : Option Nat :=
  m_impl_AngleTurns_l8 n y_ x_ x31 x33 v42 n (0 : Nat) (15 : Int)
def m_impl_AngleTurns_l9 (n : Nat) (y_ : Nat) (x_ : Nat) (x31 : Nat) (x33 : Nat) : Nat → Nat → Int → Option Nat
  | 0, _, _ => none
  | m76 + 1, v71, v72 =>
    if v72 < (3 : Int) then
      (m_math_Sqrt n (farith .add .f64 (4607182418800017408 : Nat) (farith .mul .f64 v71 v71))).bind fun x79 =>
      (m_impl_AngleTurns_l9 n y_ x_ x31 x33 m76) (farith .quo .f64 v71 (farith .add .f64 (4607182418800017408 : Nat) x79)) (w64 (v72 + (1 : Int)))
    else
      m_impl_AngleTurns_j3 n y_ x_ x31 x33 v71
def m_impl_AngleTurns_j2 (n : Nat) (y_ : Nat) (x_ : Nat) (x31 : Nat) (x33 : Nat) (v35 : Nat) : Option Nat :=
  m_impl_AngleTurns_l9 n y_ x_ x31 x33 n v35 (0 : Int)
def m_impl_AngleTurns_j1 (n : Nat) (y_ : Nat) (x_ : Nat) : Option Nat :=
  (fconv .f32 .f64 y_).bind fun x30 =>
  (m_math_Abs n x30).bind fun x31 =>
  (fconv .f32 .f64 x_).bind fun x32 =>
  (m_math_Abs n x32).bind fun x33 =>
  if (fcmp .gtr .f64 x31 x33) = true then
    m_impl_AngleTurns_j2 n y_ x_ x31 x33 (farith .quo .f64 x33 x31)
  else
    m_impl_AngleTurns_j2 n y_ x_ x31 x33 (farith .quo .f64 x31 x33)
def m_impl_AngleTurns_j10 (n : Nat) (y_ : Nat) (x_ : Nat) (v89 : Bool) : Option Nat :=
  if v89 = true then
    some (0 : Nat)
  else
    m_impl_AngleTurns_j1 n y_ x_
def m_impl_AngleTurns (n : Nat) (y_ : Nat) (x_ : Nat) : Option Nat :=
  (m_impl_finite n [y_, x_]).bind fun x83 =>
  if x83 = true then
    if (fcmp .eql .f32 x_ (0 : Nat)) = true then
      m_impl_AngleTurns_j10 n y_ x_ (fcmp .eql .f32 y_ (0 : Nat))
    else
      m_impl_AngleTurns_j10 n y_ x_ false
  else
    (m_math_NaN n).bind fun x85 =>
    (fconv .f64 .f32 x85).bind fun x86 =>
    some x86
theorem impl_AngleTurns_ok_fr0 (fr : Bool) (n : Nat) (y_ : Nat) (x_ : Nat) {r : Nat} (h : m_impl_AngleTurns n y_ x_ = some r) : ACall prog fr 35 [.d (.fl .f32 y_), .d (.fl .f32 x_)] [] (fun v o new => v = .d (.fl .f32 r) ∧ o = [] ∧ new = []) := by
  refine acall_of_aw hτ func35 rfl (by simp) (by simp) ?_
  unfold m_impl_AngleTurns at h
  refine aw_seq ?_
  refine aw_region ?_
  refine awl_val hτ rfl rfl rfl ?_
  refine awl_nil ?_
  refine aw_hk1 (ι := Unit) (fun _ => St.of [(0, .d (.fl .f32 y_)), (1, .d (.fl .f32 x_))] [] f35.ntmps 0) (fun _ => m_impl_AngleTurns_j1 n y_ x_ = some r) ?_ (fun hk82 => ?_)
  · rintro ⟨⟩ h
    replace h : m_impl_AngleTurns_j1 n y_ x_ = some r := h
    unfold m_impl_AngleTurns_j1 at h
    refine aw_seq ?_
    refine aw_region ?_
    refine awl_val hτ rfl rfl rfl ?_
    refine bnd_elim h fun x30 hx30 h => ?_
    refine awl_val hτ (v := .d (.fl .f64 x30)) rfl rfl (conv_val hx30) ?_
    refine bnd_elim h fun x31 hx31 h => ?_
    refine awl_callP hτ false [] rfl rfl rfl (enterOk func74 rfl rfl) rfl rfl (by simp) ⟨trivial, trivial⟩ (by repeat' first | exact trivial | refine ⟨?_, ?_⟩) (math_Abs_ok n x30 hx31) ?_
    rintro r0 o0 n0 ⟨rfl, rfl, rfl⟩ -
    refine awl_val hτ rfl rfl rfl ?_
    refine bnd_elim h fun x32 hx32 h => ?_
    refine awl_val hτ (v := .d (.fl .f64 x32)) rfl rfl (conv_val hx32) ?_
    refine bnd_elim h fun x33 hx33 h => ?_
    refine awl_callP hτ false [] rfl rfl rfl (enterOk func74 rfl rfl) rfl rfl (by simp) ⟨trivial, trivial⟩ (by repeat' first | exact trivial | refine ⟨?_, ?_⟩) (math_Abs_ok n x32 hx33) ?_
    rintro r0 o0 n0 ⟨rfl, rfl, rfl⟩ -
    refine awl_val hτ rfl rfl rfl ?_
    refine awl_val hτ rfl rfl rfl ?_
    refine awl_nil ?_
    refine aw_seq ?_
    refine aw_weak (weak_ofP [] (l := [(0, .d (.fl .f32 y_)), (1, .d (.fl .f32 x_)), (5, .d (.fl .f64 x31)), (6, .d (.fl .f64 x33))]) (objs := []) rfl (by simp) rfl (by repeat' first | exact trivial | refine ⟨?_, ?_⟩) ⟨rfl, trivial, rfl, trivial, rfl, trivial, rfl, trivial, trivial⟩) ?_
    refine aw_region ?_
    refine awl_val hτ rfl rfl rfl ?_
    refine awl_val hτ rfl rfl rfl ?_
    refine awl_val hτ rfl rfl rfl ?_
    refine awl_val hτ rfl rfl rfl ?_
    refine awl_nil ?_
    refine aw_hk1 (ι := Nat) (fun v35 => St.of [(0, .d (.fl .f32 y_)), (1, .d (.fl .f32 x_)), (5, .d (.fl .f64 x31)), (6, .d (.fl .f64 x33)), (7, .d (.fl .f64 v35))] [] f35.ntmps 0) (fun v35 => m_impl_AngleTurns_j2 n y_ x_ x31 x33 v35 = some r) ?_ (fun hk80 => ?_)
    · rintro v35 h
      replace h : m_impl_AngleTurns_j2 n y_ x_ x31 x33 v35 = some r := h
      unfold m_impl_AngleTurns_j2 at h
      refine aw_hk1 (ι := Nat) (fun v42 => St.of [(0, .d (.fl .f32 y_)), (1, .d (.fl .f32 x_)), (5, .d (.fl .f64 x31)), (6, .d (.fl .f64 x33)), (7, .d (.fl .f64 v42))] [] f35.ntmps 0) (fun v42 => m_impl_AngleTurns_j3 n y_ x_ x31 x33 v42 = some r) ?_ (fun hk69 => ?_)
      · rintro v42 h
        replace h : m_impl_AngleTurns_j3 n y_ x_ x31 x33 v42 = some r := h
        unfold m_impl_AngleTurns_j3 at h
        refine aw_seq ?_
        refine aw_region ?_
        refine awl_val hτ rfl rfl rfl ?_
        refine awl_val hτ rfl rfl rfl ?_
        refine awl_val hτ rfl rfl rfl ?_
        refine awl_val hτ rfl rfl rfl ?_
        refine awl_val hτ rfl rfl rfl ?_
        refine awl_nil ?_
        refine aw_hk1 (ι := Nat) (fun v47 => St.of [(0, .d (.fl .f32 y_)), (1, .d (.fl .f32 x_)), (5, .d (.fl .f64 x31)), (6, .d (.fl .f64 x33)), (7, .d (.fl .f64 v42)), (9, .d (.fl .f64 v47))] [] f35.ntmps 0) (fun v47 => m_impl_AngleTurns_j4 n y_ x_ x31 x33 v42 v47 = some r) ?_ (fun hk61 => ?_)
        · rintro v47 h
          replace h : m_impl_AngleTurns_j4 n y_ x_ x31 x33 v42 v47 = some r := h
          unfold m_impl_AngleTurns_j4 at h
          refine aw_seq ?_
          refine aw_region ?_
          refine awl_val hτ rfl rfl rfl ?_
          refine awl_val hτ rfl rfl rfl ?_
          refine awl_val hτ rfl rfl rfl ?_
          refine awl_val hτ rfl rfl rfl ?_
          refine awl_val hτ rfl rfl rfl ?_
          refine awl_val hτ rfl rfl rfl ?_
          refine awl_nil ?_
          refine aw_hk1 (ι := Nat) (fun v49 => St.of [(0, .d (.fl .f32 y_)), (1, .d (.fl .f32 x_)), (11, .d (.fl .f64 v49))] [] f35.ntmps 0) (fun v49 => m_impl_AngleTurns_j5 n y_ x_ v49 = some r) ?_ (fun hk59 => ?_)
          · rintro v49 h
            replace h : m_impl_AngleTurns_j5 n y_ x_ v49 = some r := h
            unfold m_impl_AngleTurns_j5 at h
            refine aw_hk1 (ι := Nat) (fun v51 => St.of [(0, .d (.fl .f32 y_)), (11, .d (.fl .f64 v51))] [] f35.ntmps 0) (fun v51 => m_impl_AngleTurns_j6 n y_ v51 = some r) ?_ (fun hk57 => ?_)
            · rintro v51 h
              replace h : m_impl_AngleTurns_j6 n y_ v51 = some r := h
              unfold m_impl_AngleTurns_j6 at h
              refine aw_hk1 (ι := Nat) (fun v53 => St.of [(11, .d (.fl .f64 v53))] [] f35.ntmps 0) (fun v53 => m_impl_AngleTurns_j7 n v53 = some r) ?_ (fun hk55 => ?_)
              · rintro v53 h
                replace h : m_impl_AngleTurns_j7 n v53 = some r := h
                unfold m_impl_AngleTurns_j7 at h
                refine aw_seq ?_
                refine aw_region ?_
                refine awl_val hτ rfl rfl rfl ?_
                refine bnd_elim h fun x54 hx54 h => ?_
                refine awl_val hτ (v := .d (.fl .f32 x54)) rfl rfl (conv_val hx54) ?_
                refine awl_val hτ rfl rfl rfl ?_
                refine awl_nil ?_
                refine aw_weak (weak_ofP [] (l := [(4, .d (.fl .f32 x54))]) (objs := []) rfl (by simp) rfl (by repeat' first | exact trivial | refine ⟨?_, ?_⟩) ⟨rfl, trivial, trivial⟩) ?_
                refine aw_ret ?_
                have hr := Option.some.inj h
                subst hr
                exact ret_objs (.inr rfl) [] (objs' := []) (new := []) rfl (by simp) (by simp) rfl (by repeat' first | exact trivial | refine ⟨?_, ?_⟩) rfl rfl (by repeat' first | exact trivial | refine ⟨?_, ?_⟩) (fun _ => ⟨by simp [V.flat, V.flatA, V.flatC, D.flat], flat_nil⟩) ⟨rfl, rfl, rfl⟩
              · refine aw_seq ?_
                refine aw_seq ?_
                refine aw_region ?_
                refine awl_val hτ rfl rfl rfl ?_
                refine awl_val hτ rfl rfl rfl ?_
                refine awl_nil ?_
                refine aw_cond rfl (fun hc56 => ?_) (fun hc56 => ?_)
                · have h := if_bt h hc56
                  refine aw_region ?_
                  refine awl_val hτ rfl rfl rfl ?_
                  refine awl_val hτ rfl rfl rfl ?_
                  refine awl_val hτ rfl rfl rfl ?_
                  refine awl_nil ?_
                  refine aw_weak (weak_ofP [] (l := [(11, .d (.fl .f64 (fneg .f64 v51)))]) (objs := []) rfl (by simp) rfl (by repeat' first | exact trivial | refine ⟨?_, ?_⟩) ⟨rfl, trivial, trivial⟩) ?_
                  exact hk55 (fneg .f64 v51) h
                · have h := if_bf h hc56
                  refine aw_skip ?_
                  refine aw_weak (weak_ofP [] (l := [(11, .d (.fl .f64 v51))]) (objs := []) rfl (by simp) rfl (by repeat' first | exact trivial | refine ⟨?_, ?_⟩) ⟨rfl, trivial, trivial⟩) ?_
                  exact hk55 v51 h
            · refine aw_seq ?_
              refine aw_seq ?_
              refine aw_region ?_
              refine awl_val hτ rfl rfl rfl ?_
              refine awl_val hτ rfl rfl rfl ?_
              refine awl_nil ?_
              refine aw_cond rfl (fun hc58 => ?_) (fun hc58 => ?_)
              · have h := if_bt h hc58
                refine aw_region ?_
                refine awl_val hτ rfl rfl rfl ?_
                refine awl_val hτ rfl rfl rfl ?_
                refine awl_val hτ rfl rfl rfl ?_
                refine awl_nil ?_
                refine aw_weak (weak_ofP [] (l := [(0, .d (.fl .f32 y_)), (11, .d (.fl .f64 (farith .sub .f64 (4602678819172646912 : Nat) v49)))]) (objs := []) rfl (by simp) rfl (by repeat' first | exact trivial | refine ⟨?_, ?_⟩) ⟨rfl, trivial, rfl, trivial, trivial⟩) ?_
                exact hk57 (farith .sub .f64 (4602678819172646912 : Nat) v49) h
              · have h := if_bf h hc58
                refine aw_skip ?_
                refine aw_weak (weak_ofP [] (l := [(0, .d (.fl .f32 y_)), (11, .d (.fl .f64 v49))]) (objs := []) rfl (by simp) rfl (by repeat' first | exact trivial | refine ⟨?_, ?_⟩) ⟨rfl, trivial, rfl, trivial, trivial⟩) ?_
                exact hk57 v49 h
          · refine aw_seq ?_
            refine aw_seq ?_
            refine aw_weak (weak_ofP [] (l := [(0, .d (.fl .f32 y_)), (1, .d (.fl .f32 x_)), (5, .d (.fl .f64 x31)), (6, .d (.fl .f64 x33)), (11, .d (.fl .f64 (farith .quo .f64 (farith .mul .f64 (4620693217682128896 : Nat) (farith .mul .f64 v42 v47)) (4618760256179416344 : Nat))))]) (objs := []) rfl (by simp) rfl (by repeat' first | exact trivial | refine ⟨?_, ?_⟩) ⟨rfl, trivial, rfl, trivial, rfl, trivial, rfl, trivial, rfl, trivial, trivial⟩) ?_
            refine aw_region ?_
            refine awl_val hτ rfl rfl rfl ?_
            refine awl_val hτ rfl rfl rfl ?_
            refine awl_val hτ rfl rfl rfl ?_
            refine awl_nil ?_
            refine aw_cond rfl (fun hc60 => ?_) (fun hc60 => ?_)
            · have h := if_bt h hc60
              refine aw_region ?_
              refine awl_val hτ rfl rfl rfl ?_
              refine awl_val hτ rfl rfl rfl ?_
              refine awl_val hτ rfl rfl rfl ?_
              refine awl_nil ?_
              refine aw_weak (weak_ofP [] (l := [(0, .d (.fl .f32 y_)), (1, .d (.fl .f32 x_)), (11, .d (.fl .f64 (farith .sub .f64 (4598175219545276416 : Nat) (farith .quo .f64 (farith .mul .f64 (4620693217682128896 : Nat) (farith .mul .f64 v42 v47)) (4618760256179416344 : Nat)))))]) (objs := []) rfl (by simp) rfl (by repeat' first | exact trivial | refine ⟨?_, ?_⟩) ⟨rfl, trivial, rfl, trivial, rfl, trivial, trivial⟩) ?_
              exact hk59 (farith .sub .f64 (4598175219545276416 : Nat) (farith .quo .f64 (farith .mul .f64 (4620693217682128896 : Nat) (farith .mul .f64 v42 v47)) (4618760256179416344 : Nat))) h
            · have h := if_bf h hc60
              refine aw_skip ?_
              refine aw_weak (weak_ofP [] (l := [(0, .d (.fl .f32 y_)), (1, .d (.fl .f32 x_)), (11, .d (.fl .f64 (farith .quo .f64 (farith .mul .f64 (4620693217682128896 : Nat) (farith .mul .f64 v42 v47)) (4618760256179416344 : Nat))))]) (objs := []) rfl (by simp) rfl (by repeat' first | exact trivial | refine ⟨?_, ?_⟩) ⟨rfl, trivial, rfl, trivial, rfl, trivial, trivial⟩) ?_
              exact hk59 (farith .quo .f64 (farith .mul .f64 (4620693217682128896 : Nat) (farith .mul .f64 v42 v47)) (4618760256179416344 : Nat)) h
        · refine aw_seq ?_
          refine aw_seq ?_
          refine aw_region ?_
          refine awl_val hτ rfl rfl rfl ?_
          refine awl_nil ?_
          refine aw_block ?_
          refine aw_loop (ι := Nat × Nat × Int) (fun (m66, v62, v63) => St.of [(0, .d (.fl .f32 y_)), (1, .d (.fl .f32 x_)), (5, .d (.fl .f64 x31)), (6, .d (.fl .f64 x33)), (7, .d (.fl .f64 v42)), (8, .d (.fl .f64 (farith .mul .f64 v42 v42))), (9, .d (.fl .f64 v62)), (10, .d (.int .i64 v63))] [] f35.ntmps 0) (fun (m66, v62, v63) => m_impl_AngleTurns_l8 n y_ x_ x31 x33 v42 m66 v62 v63 = some r) (fun x => x.1) (n, (0 : Nat), (15 : Int)) h (weak_ofP [] (l := [(0, .d (.fl .f32 y_)), (1, .d (.fl .f32 x_)), (5, .d (.fl .f64 x31)), (6, .d (.fl .f64 x33)), (7, .d (.fl .f64 v42)), (8, .d (.fl .f64 (farith .mul .f64 v42 v42))), (9, .d (.fl .f64 (0 : Nat))), (10, .d (.int .i64 (15 : Int)))]) (objs := []) rfl (by simp) rfl (by repeat' first | exact trivial | refine ⟨?_, ?_⟩) ⟨rfl, trivial, rfl, trivial, rfl, trivial, rfl, trivial, rfl, trivial, rfl, trivial, rfl, trivial, rfl, trivial, trivial⟩) ?_
          rintro ⟨m66, v62, v63⟩ h
          replace h : m_impl_AngleTurns_l8 n y_ x_ x31 x33 v42 m66 v62 v63 = some r := h
          rcases m66 with _ | m66
          · rw [m_impl_AngleTurns_l8] at h; cases h
          rw [m_impl_AngleTurns_l8] at h
          refine aw_seq ?_
          refine aw_seq ?_
          refine aw_region ?_
          refine awl_val hτ rfl rfl rfl ?_
          refine awl_val hτ rfl rfl rfl ?_
          refine awl_nil ?_
          refine aw_cond rfl (fun hc68 => ?_) (fun hc68 => ?_)
          · have h := if_t h hc68
            refine aw_skip ?_
            refine aw_seq ?_
            refine aw_block ?_
            refine aw_region ?_
            refine awl_val hτ rfl rfl rfl ?_
            refine awl_val hτ rfl rfl rfl ?_
            refine awl_val hτ rfl rfl rfl ?_
            refine awl_val hτ rfl rfl rfl ?_
            refine awl_val hτ rfl rfl rfl ?_
            refine awl_val hτ rfl rfl rfl ?_
            refine awl_val hτ rfl rfl rfl ?_
            refine awl_val hτ rfl rfl rfl ?_
            refine awl_nil ?_
            refine aw_weak (weak_ofP [] (l := [(0, .d (.fl .f32 y_)), (1, .d (.fl .f32 x_)), (5, .d (.fl .f64 x31)), (6, .d (.fl .f64 x33)), (7, .d (.fl .f64 v42)), (8, .d (.fl .f64 (farith .mul .f64 v42 v42))), (9, .d (.fl .f64 (farith .sub .f64 (farith .quo .f64 (4607182418800017408 : Nat) (FloatKind.nearest .f64 v63)) (farith .mul .f64 (farith .mul .f64 v42 v42) v62)))), (10, .d (.int .i64 v63))]) (objs := []) rfl (by simp) rfl (by repeat' first | exact trivial | refine ⟨?_, ?_⟩) ⟨rfl, trivial, rfl, trivial, rfl, trivial, rfl, trivial, rfl, trivial, rfl, trivial, rfl, trivial, rfl, trivial, trivial⟩) ?_
            refine aw_region ?_
            refine awl_val hτ rfl rfl rfl ?_
            refine awl_val hτ rfl rfl rfl ?_
            refine awl_val hτ rfl rfl rfl ?_
            refine awl_nil ?_
            exact ⟨(m66, (farith .sub .f64 (farith .quo .f64 (4607182418800017408 : Nat) (FloatKind.nearest .f64 v63)) (farith .mul .f64 (farith .mul .f64 v42 v42) v62)), (w64 (v63 - (2 : Int)))), h, Nat.lt_succ_self m66, (weak_ofP [] (l := [(0, .d (.fl .f32 y_)), (1, .d (.fl .f32 x_)), (5, .d (.fl .f64 x31)), (6, .d (.fl .f64 x33)), (7, .d (.fl .f64 v42)), (8, .d (.fl .f64 (farith .mul .f64 v42 v42))), (9, .d (.fl .f64 (farith .sub .f64 (farith .quo .f64 (4607182418800017408 : Nat) (FloatKind.nearest .f64 v63)) (farith .mul .f64 (farith .mul .f64 v42 v42) v62)))), (10, .d (.int .i64 (w64 (v63 - (2 : Int)))))]) (objs := []) rfl (by simp) rfl (by repeat' first | exact trivial | refine ⟨?_, ?_⟩) ⟨rfl, trivial, rfl, trivial, rfl, trivial, rfl, trivial, rfl, trivial, rfl, trivial, rfl, trivial, rfl, trivial, trivial⟩)⟩
          · have h := if_f h hc68
            refine aw_exit ?_
            refine aw_weak (weak_ofP [] (l := [(0, .d (.fl .f32 y_)), (1, .d (.fl .f32 x_)), (5, .d (.fl .f64 x31)), (6, .d (.fl .f64 x33)), (7, .d (.fl .f64 v42)), (9, .d (.fl .f64 v62))]) (objs := []) rfl (by simp) rfl (by repeat' first | exact trivial | refine ⟨?_, ?_⟩) ⟨rfl, trivial, rfl, trivial, rfl, trivial, rfl, trivial, rfl, trivial, rfl, trivial, trivial⟩) ?_
            exact hk61 v62 h
      · refine aw_seq ?_
        refine aw_seq ?_
        refine aw_region ?_
        refine awl_val hτ rfl rfl rfl ?_
        refine awl_nil ?_
        refine aw_block ?_
        refine aw_loop (ι := Nat × Nat × Int) (fun (m76, v71, v72) => St.of [(0, .d (.fl .f32 y_)), (1, .d (.fl .f32 x_)), (5, .d (.fl .f64 x31)), (6, .d (.fl .f64 x33)), (7, .d (.fl .f64 v71)), (42, .d (.int .i64 v72))] [] f35.ntmps 0) (fun (m76, v71, v72) => m_impl_AngleTurns_l9 n y_ x_ x31 x33 m76 v71 v72 = some r) (fun x => x.1) (n, v35, (0 : Int)) h (weak_ofP [] (l := [(0, .d (.fl .f32 y_)), (1, .d (.fl .f32 x_)), (5, .d (.fl .f64 x31)), (6, .d (.fl .f64 x33)), (7, .d (.fl .f64 v35)), (42, .d (.int .i64 (0 : Int)))]) (objs := []) rfl (by simp) rfl (by repeat' first | exact trivial | refine ⟨?_, ?_⟩) ⟨rfl, trivial, rfl, trivial, rfl, trivial, rfl, trivial, rfl, trivial, rfl, trivial, trivial⟩) ?_
        rintro ⟨m76, v71, v72⟩ h
        replace h : m_impl_AngleTurns_l9 n y_ x_ x31 x33 m76 v71 v72 = some r := h
        rcases m76 with _ | m76
        · rw [m_impl_AngleTurns_l9] at h; cases h
        rw [m_impl_AngleTurns_l9] at h
        refine aw_seq ?_
        refine aw_region ?_
        refine awl_val hτ rfl rfl rfl ?_
        refine awl_nil ?_
        refine aw_seq ?_
        refine aw_cond rfl (fun hc78 => ?_) (fun hc78 => ?_)
        · have h := if_t h hc78
          refine aw_skip ?_
          refine aw_seq ?_
          refine aw_block ?_
          refine aw_region ?_
          refine awl_val hτ rfl rfl rfl ?_
          refine awl_val hτ rfl rfl rfl ?_
          refine awl_val hτ rfl rfl rfl ?_
          refine awl_val hτ rfl rfl rfl ?_
          refine awl_val hτ rfl rfl rfl ?_
          refine bnd_elim h fun x79 hx79 h => ?_
          refine awl_callP hτ false [] rfl rfl rfl (enterOk func48 rfl rfl) rfl rfl (by simp) ⟨trivial, trivial⟩ (by repeat' first | exact trivial | refine ⟨?_, ?_⟩) (math_Sqrt_ok n (farith .add .f64 (4607182418800017408 : Nat) (farith .mul .f64 v71 v71)) hx79) ?_
          rintro r0 o0 n0 ⟨rfl, rfl, rfl⟩ -
          refine awl_val hτ rfl rfl rfl ?_
          refine awl_val hτ rfl rfl rfl ?_
          refine awl_val hτ rfl rfl rfl ?_
          refine awl_nil ?_
          refine aw_weak (weak_ofP [] (l := [(0, .d (.fl .f32 y_)), (1, .d (.fl .f32 x_)), (5, .d (.fl .f64 x31)), (6, .d (.fl .f64 x33)), (7, .d (.fl .f64 (farith .quo .f64 v71 (farith .add .f64 (4607182418800017408 : Nat) x79)))), (42, .d (.int .i64 v72))]) (objs := []) rfl (by simp) rfl (by repeat' first | exact trivial | refine ⟨?_, ?_⟩) ⟨rfl, trivial, rfl, trivial, rfl, trivial, rfl, trivial, rfl, trivial, rfl, trivial, trivial⟩) ?_
          refine aw_region ?_
          refine awl_val hτ rfl rfl rfl ?_
          refine awl_val hτ rfl rfl rfl ?_
          refine awl_nil ?_
          exact ⟨(m76, (farith .quo .f64 v71 (farith .add .f64 (4607182418800017408 : Nat) x79)), (w64 (v72 + (1 : Int)))), h, Nat.lt_succ_self m76, (weak_ofP [] (l := [(0, .d (.fl .f32 y_)), (1, .d (.fl .f32 x_)), (5, .d (.fl .f64 x31)), (6, .d (.fl .f64 x33)), (7, .d (.fl .f64 (farith .quo .f64 v71 (farith .add .f64 (4607182418800017408 : Nat) x79)))), (42, .d (.int .i64 (w64 (v72 + (1 : Int)))))]) (objs := []) rfl (by simp) rfl (by repeat' first | exact trivial | refine ⟨?_, ?_⟩) ⟨rfl, trivial, rfl, trivial, rfl, trivial, rfl, trivial, rfl, trivial, rfl, trivial, trivial⟩)⟩
        · have h := if_f h hc78
          refine aw_exit ?_
          refine aw_weak (weak_ofP [] (l := [(0, .d (.fl .f32 y_)), (1, .d (.fl .f32 x_)), (5, .d (.fl .f64 x31)), (6, .d (.fl .f64 x33)), (7, .d (.fl .f64 v71))]) (objs := []) rfl (by simp) rfl (by repeat' first | exact trivial | refine ⟨?_, ?_⟩) ⟨rfl, trivial, rfl, trivial, rfl, trivial, rfl, trivial, rfl, trivial, trivial⟩) ?_
          exact hk69 v71 h
    · refine aw_seq ?_
      refine aw_seq ?_
      refine aw_region ?_
      refine awl_val hτ rfl rfl rfl ?_
      refine awl_val hτ rfl rfl rfl ?_
      refine awl_val hτ rfl rfl rfl ?_
      refine awl_nil ?_
      refine aw_weak (weak_ofP [] (l := [(0, .d (.fl .f32 y_)), (1, .d (.fl .f32 x_)), (5, .d (.fl .f64 x31)), (6, .d (.fl .f64 x33)), (7, .d (.fl .f64 (farith .quo .f64 x31 x33))), (38, .d (.bool (fcmp .gtr .f64 x31 x33)))]) (objs := []) rfl (by simp) rfl (by repeat' first | exact trivial | refine ⟨?_, ?_⟩) ⟨rfl, trivial, rfl, trivial, rfl, trivial, rfl, trivial, rfl, trivial, rfl, trivial, trivial⟩) ?_
      refine aw_cond rfl (fun hc81 => ?_) (fun hc81 => ?_)
      · have h := if_bt h hc81
        refine aw_region ?_
        refine awl_val hτ rfl rfl rfl ?_
        refine awl_val hτ rfl rfl rfl ?_
        refine awl_val hτ rfl rfl rfl ?_
        refine awl_val hτ rfl rfl rfl ?_
        refine awl_nil ?_
        refine aw_weak (weak_ofP [] (l := [(0, .d (.fl .f32 y_)), (1, .d (.fl .f32 x_)), (5, .d (.fl .f64 x31)), (6, .d (.fl .f64 x33)), (7, .d (.fl .f64 (farith .quo .f64 x33 x31)))]) (objs := []) rfl (by simp) rfl (by repeat' first | exact trivial | refine ⟨?_, ?_⟩) ⟨rfl, trivial, rfl, trivial, rfl, trivial, rfl, trivial, rfl, trivial, trivial⟩) ?_
        exact hk80 (farith .quo .f64 x33 x31) h
      · have h := if_bf h hc81
        refine aw_skip ?_
        refine aw_weak (weak_ofP [] (l := [(0, .d (.fl .f32 y_)), (1, .d (.fl .f32 x_)), (5, .d (.fl .f64 x31)), (6, .d (.fl .f64 x33)), (7, .d (.fl .f64 (farith .quo .f64 x31 x33)))]) (objs := []) rfl (by simp) rfl (by repeat' first | exact trivial | refine ⟨?_, ?_⟩) ⟨rfl, trivial, rfl, trivial, rfl, trivial, rfl, trivial, rfl, trivial, trivial⟩) ?_
        exact hk80 (farith .quo .f64 x31 x33) h
  · refine aw_seq ?_
    refine aw_block ?_
    refine aw_seq ?_
    refine aw_region ?_
    refine awl_val hτ rfl rfl rfl ?_
    refine awl_val hτ rfl rfl rfl ?_
    refine awl_valH hτ rfl rfl rfl ?_
    refine awl_weak (weak_ofP [0] (l := [(0, .d (.fl .f32 y_)), (1, .d (.fl .f32 x_)), (15, .row 0 ([y_, x_].length) 0 ([y_, x_].length))]) (objs := [.row 1 ([y_, x_].map eNatf32)]) rfl (by simp) rfl (by repeat' first | exact trivial | refine ⟨?_, ?_⟩) ⟨rfl, trivial, rfl, trivial, rfl, trivial, trivial⟩) ?_
    refine bnd_elim h fun x83 hx83 h => ?_
    refine awl_callP hτ true [] rfl rfl rfl (enterOk func67 rfl rfl) (mapO_cons (exV_view (f := eNatf32) [y_, x_] rfl rfl rfl) mapO_nil) rfl (by simp) ⟨(exVP_view (f := eNatf32) [y_, x_] rfl rfl rfl), trivial⟩ (by repeat' first | exact trivial | refine ⟨?_, ?_⟩) (impl_finite_ok_fr n [y_, x_] hx83) ?_
    rintro r0 o0 n0 ⟨rfl, rfl, rfl⟩ -
    refine awl_val hτ rfl rfl rfl ?_
    refine awl_val hτ rfl rfl rfl ?_
    refine awl_nil ?_
    refine aw_cond rfl (fun hc84 => ?_) (fun hc84 => ?_)
    · have hc84 := not_t hc84
      have h := if_bf h hc84
      refine aw_seq ?_
      refine aw_region ?_
      refine bnd_elim h fun x85 hx85 h => ?_
      refine awl_callP hτ false [] rfl rfl rfl (enterOk func73 rfl rfl) rfl rfl (by simp) trivial (by repeat' first | exact trivial | refine ⟨?_, ?_⟩) (math_NaN_ok n hx85) ?_
      rintro r0 o0 n0 ⟨rfl, rfl, rfl⟩ -
      refine bnd_elim h fun x86 hx86 h => ?_
      refine awl_val hτ (v := .d (.fl .f32 x86)) rfl rfl (conv_val hx86) ?_
      refine awl_val hτ rfl rfl rfl ?_
      refine awl_nil ?_
      refine aw_weak (weak_ofP [] (l := [(4, .d (.fl .f32 x86))]) (objs := []) rfl (by simp) rfl (by repeat' first | exact trivial | refine ⟨?_, ?_⟩) ⟨rfl, trivial, trivial⟩) ?_
      refine aw_ret ?_
      have hr := Option.some.inj h
      subst hr
      exact ret_objs (.inr rfl) [] (objs' := []) (new := []) rfl (by simp) (by simp) rfl (by repeat' first | exact trivial | refine ⟨?_, ?_⟩) rfl rfl (by repeat' first | exact trivial | refine ⟨?_, ?_⟩) (fun _ => ⟨by simp [V.flat, V.flatA, V.flatC, D.flat], flat_nil⟩) ⟨rfl, rfl, rfl⟩
    · have hc84 := not_f hc84
      have h := if_bt h hc84
      refine aw_hk1 (ι := Bool) (fun v89 => St.of [(0, .d (.fl .f32 y_)), (1, .d (.fl .f32 x_)), (20, .d (.bool v89))] [] f35.ntmps 0) (fun v89 => m_impl_AngleTurns_j10 n y_ x_ v89 = some r) ?_ (fun hk91 => ?_)
      · rintro v89 h
        replace h : m_impl_AngleTurns_j10 n y_ x_ v89 = some r := h
        unfold m_impl_AngleTurns_j10 at h
        refine aw_cond rfl (fun hc90 => ?_) (fun hc90 => ?_)
        · have h := if_bt h hc90
          refine aw_seq ?_
          refine aw_region ?_
          refine awl_val hτ rfl rfl rfl ?_
          refine awl_nil ?_
          refine aw_weak (weak_ofP [] (l := [(4, .d (.fl .f32 (0 : Nat)))]) (objs := []) rfl (by simp) rfl (by repeat' first | exact trivial | refine ⟨?_, ?_⟩) ⟨rfl, trivial, trivial⟩) ?_
          refine aw_ret ?_
          have hr := Option.some.inj h
          subst hr
          exact ret_objs (.inr rfl) [] (objs' := []) (new := []) rfl (by simp) (by simp) rfl (by repeat' first | exact trivial | refine ⟨?_, ?_⟩) rfl rfl (by repeat' first | exact trivial | refine ⟨?_, ?_⟩) (fun _ => ⟨by simp [V.flat, V.flatA, V.flatC, D.flat], flat_nil⟩) ⟨rfl, rfl, rfl⟩
        · have h := if_bf h hc90
          refine aw_skip ?_
          refine aw_weak (weak_ofP [] (l := [(0, .d (.fl .f32 y_)), (1, .d (.fl .f32 x_))]) (objs := []) rfl (by simp) rfl (by repeat' first | exact trivial | refine ⟨?_, ?_⟩) ⟨rfl, trivial, rfl, trivial, trivial⟩) ?_
          exact hk82 () h
      · refine aw_seq ?_
        refine aw_region ?_
        refine awl_val hτ rfl rfl rfl ?_
        refine awl_val hτ rfl rfl rfl ?_
        refine awl_val hτ rfl rfl rfl ?_
        refine awl_split 23 rfl (fun hb92 => ?_) (fun hb92 => ?_)
        · have h := if_bt h hb92
          refine awl_val hτ rfl rfl rfl ?_
          refine awl_val hτ rfl rfl rfl ?_
          refine awl_val hτ rfl rfl rfl ?_
          refine awl_val hτ rfl rfl rfl ?_
          refine awl_nil ?_
          refine aw_weak (weak_ofP [] (l := [(0, .d (.fl .f32 y_)), (1, .d (.fl .f32 x_)), (20, .d (.bool (fcmp .eql .f32 y_ (0 : Nat))))]) (objs := []) rfl (by simp) rfl (by repeat' first | exact trivial | refine ⟨?_, ?_⟩) ⟨rfl, trivial, rfl, trivial, rfl, trivial, trivial⟩) ?_
          exact hk91 (fcmp .eql .f32 y_ (0 : Nat)) h
        · have h := if_bf h hb92
          refine awl_skip rfl rfl ?_
          refine awl_skip rfl rfl ?_
          refine awl_val hτ rfl rfl rfl ?_
          refine awl_val hτ rfl rfl rfl ?_
          refine awl_nil ?_
          refine aw_weak (weak_ofP [] (l := [(0, .d (.fl .f32 y_)), (1, .d (.fl .f32 x_)), (20, .d (.bool false))]) (objs := []) rfl (by simp) rfl (by repeat' first | exact trivial | refine ⟨?_, ?_⟩) ⟨rfl, trivial, rfl, trivial, rfl, trivial, trivial⟩) ?_
          exact hk91 false h
theorem impl_AngleTurns_ok (n : Nat) (y_ : Nat) (x_ : Nat) {r : Nat} (h : m_impl_AngleTurns n y_ x_ = some r) : ACall prog false 35 [.d (.fl .f32 y_), .d (.fl .f32 x_)] [] (fun v o new => v = .d (.fl .f32 r) ∧ o = [] ∧ new = []) := impl_AngleTurns_ok_fr0 false n y_ x_ h
theorem impl_AngleTurns_ok_fr (n : Nat) (y_ : Nat) (x_ : Nat) {r : Nat} (h : m_impl_AngleTurns n y_ x_ = some r) : ACall prog true 35 [.d (.fl .f32 y_), .d (.fl .f32 x_)] [] (fun v o new => v = .d (.fl .f32 r) ∧ o = [] ∧ new = []) := impl_AngleTurns_ok_fr0 true n y_ x_ h

def m_impl_AngleOf (n : Nat) (x_ : Cx) : Option Nat :=
  (m_impl_AngleTurns n x_.im x_.re).bind fun x2 =>
  some x2
theorem impl_AngleOf_ok_fr0 (fr : Bool) (n : Nat) (x_ : Cx) {r : Nat} (h : m_impl_AngleOf n x_ = some r) : ACall prog fr 36 [.d (.cx .f32 x_.re x_.im)] [] (fun v o new => v = .d (.fl .f32 r) ∧ o = [] ∧ new = []) := by
  refine acall_of_aw hτ func36 rfl (by simp) (by simp) ?_
  unfold m_impl_AngleOf at h
  refine aw_seq ?_
  refine aw_region ?_
  refine awl_val hτ rfl rfl rfl ?_
  refine awl_nil ?_
  refine aw_seq ?_
  refine aw_region ?_
  refine awl_val hτ rfl rfl rfl ?_
  refine awl_val hτ rfl rfl rfl ?_
  refine awl_val hτ rfl rfl rfl ?_
  refine awl_val hτ rfl rfl rfl ?_
  refine bnd_elim h fun x2 hx2 h => ?_
  refine awl_callP hτ false [] rfl rfl rfl (enterOk func35 rfl rfl) rfl rfl (by simp) ⟨trivial, trivial, trivial⟩ (by repeat' first | exact trivial | refine ⟨?_, ?_⟩) (impl_AngleTurns_ok n x_.im x_.re hx2) ?_
  rintro r0 o0 n0 ⟨rfl, rfl, rfl⟩ -
  refine awl_val hτ rfl rfl rfl ?_
  refine awl_nil ?_
  refine aw_weak (weak_ofP [] (l := [(2, .d (.fl .f32 x2))]) (objs := []) rfl (by simp) rfl (by repeat' first | exact trivial | refine ⟨?_, ?_⟩) ⟨rfl, trivial, trivial⟩) ?_
  refine aw_ret ?_
  have hr := Option.some.inj h
  subst hr
  exact ret_objs (.inr rfl) [] (objs' := []) (new := []) rfl (by simp) (by simp) rfl (by repeat' first | exact trivial | refine ⟨?_, ?_⟩) rfl rfl (by repeat' first | exact trivial | refine ⟨?_, ?_⟩) (fun _ => ⟨by simp [V.flat, V.flatA, V.flatC, D.flat], flat_nil⟩) ⟨rfl, rfl, rfl⟩
theorem impl_AngleOf_ok (n : Nat) (x_ : Cx) {r : Nat} (h : m_impl_AngleOf n x_ = some r) : ACall prog false 36 [.d (.cx .f32 x_.re x_.im)] [] (fun v o new => v = .d (.fl .f32 r) ∧ o = [] ∧ new = []) := impl_AngleOf_ok_fr0 false n x_ h
theorem impl_AngleOf_ok_fr (n : Nat) (x_ : Cx) {r : Nat} (h : m_impl_AngleOf n x_ = some r) : ACall prog true 36 [.d (.cx .f32 x_.re x_.im)] [] (fun v o new => v = .d (.fl .f32 r) ∧ o = [] ∧ new = []) := impl_AngleOf_ok_fr0 true n x_ h

def m_impl_NarrowNumber (n : Nat) (x_ : Nat) : Option Nat :=
  (fconv .f64 .f32 x_).bind fun x2 =>
  some x2
theorem impl_NarrowNumber_ok_fr0 (fr : Bool) (n : Nat) (x_ : Nat) {r : Nat} (h : m_impl_NarrowNumber n x_ = some r) : ACall prog fr 37 [.d (.fl .f64 x_)] [] (fun v o new => v = .d (.fl .f32 r) ∧ o = [] ∧ new = []) := by
  refine acall_of_aw hτ func37 rfl (by simp) (by simp) ?_
  unfold m_impl_NarrowNumber at h
  refine aw_seq ?_
  refine aw_region ?_
  refine awl_val hτ rfl rfl rfl ?_
  refine awl_nil ?_
  refine aw_seq ?_
  refine aw_region ?_
  refine awl_val hτ rfl rfl rfl ?_
  refine bnd_elim h fun x2 hx2 h => ?_
  refine awl_val hτ (v := .d (.fl .f32 x2)) rfl rfl (conv_val hx2) ?_
  refine awl_val hτ rfl rfl rfl ?_
  refine awl_nil ?_
  refine aw_weak (weak_ofP [] (l := [(2, .d (.fl .f32 x2))]) (objs := []) rfl (by simp) rfl (by repeat' first | exact trivial | refine ⟨?_, ?_⟩) ⟨rfl, trivial, trivial⟩) ?_
  refine aw_ret ?_
  have hr := Option.some.inj h
  subst hr
  exact ret_objs (.inr rfl) [] (objs' := []) (new := []) rfl (by simp) (by simp) rfl (by repeat' first | exact trivial | refine ⟨?_, ?_⟩) rfl rfl (by repeat' first | exact trivial | refine ⟨?_, ?_⟩) (fun _ => ⟨by simp [V.flat, V.flatA, V.flatC, D.flat], flat_nil⟩) ⟨rfl, rfl, rfl⟩
theorem impl_NarrowNumber_ok (n : Nat) (x_ : Nat) {r : Nat} (h : m_impl_NarrowNumber n x_ = some r) : ACall prog false 37 [.d (.fl .f64 x_)] [] (fun v o new => v = .d (.fl .f32 r) ∧ o = [] ∧ new = []) := impl_NarrowNumber_ok_fr0 false n x_ h
theorem impl_NarrowNumber_ok_fr (n : Nat) (x_ : Nat) {r : Nat} (h : m_impl_NarrowNumber n x_ = some r) : ACall prog true 37 [.d (.fl .f64 x_)] [] (fun v o new => v = .d (.fl .f32 r) ∧ o = [] ∧ new = []) := impl_NarrowNumber_ok_fr0 true n x_ h

def m_impl_nan (n : Nat) : Option Nat :=
  (m_math_NaN n).bind fun x3 =>
  (fconv .f64 .f32 x3).bind fun x4 =>
  some x4
theorem impl_nan_ok_fr0 (fr : Bool) (n : Nat) {r : Nat} (h : m_impl_nan n = some r) : ACall prog fr 76 [] [] (fun v o new => v = .d (.fl .f32 r) ∧ o = [] ∧ new = []) := by
  refine acall_of_aw hτ func76 rfl (by simp) (by simp) ?_
  unfold m_impl_nan at h
  refine aw_seq ?_
  refine aw_region ?_
  refine awl_val hτ rfl rfl rfl ?_
  refine awl_nil ?_
  refine aw_seq ?_
  refine aw_region ?_
  refine bnd_elim h fun x3 hx3 h => ?_
  refine awl_callP hτ false [] rfl rfl rfl (enterOk func73 rfl rfl) rfl rfl (by simp) trivial (by repeat' first | exact trivial | refine ⟨?_, ?_⟩) (math_NaN_ok n hx3) ?_
  rintro r0 o0 n0 ⟨rfl, rfl, rfl⟩ -
  refine bnd_elim h fun x4 hx4 h => ?_
  refine awl_val hτ (v := .d (.fl .f32 x4)) rfl rfl (conv_val hx4) ?_
  refine awl_val hτ rfl rfl rfl ?_
  refine awl_nil ?_
  refine aw_weak (weak_ofP [] (l := [(0, .d (.fl .f32 x4))]) (objs := []) rfl (by simp) rfl (by repeat' first | exact trivial | refine ⟨?_, ?_⟩) ⟨rfl, trivial, trivial⟩) ?_
  refine aw_ret ?_
  have hr := Option.some.inj h
  subst hr
  exact ret_objs (.inr rfl) [] (objs' := []) (new := []) rfl (by simp) (by simp) rfl (by repeat' first | exact trivial | refine ⟨?_, ?_⟩) rfl rfl (by repeat' first | exact trivial | refine ⟨?_, ?_⟩) (fun _ => ⟨by simp [V.flat, V.flatA, V.flatC, D.flat], flat_nil⟩) ⟨rfl, rfl, rfl⟩
theorem impl_nan_ok (n : Nat) {r : Nat} (h : m_impl_nan n = some r) : ACall prog false 76 [] [] (fun v o new => v = .d (.fl .f32 r) ∧ o = [] ∧ new = []) := impl_nan_ok_fr0 false n h
theorem impl_nan_ok_fr (n : Nat) {r : Nat} (h : m_impl_nan n = some r) : ACall prog true 76 [] [] (fun v o new => v = .d (.fl .f32 r) ∧ o = [] ∧ new = []) := impl_nan_ok_fr0 true n h

def m_math_Trunc (n : Nat) (x_ : Nat) : Option Nat :=
  grd (isnan .f64 x_ = false) <|
  some (fint .zero x_)
theorem math_Trunc_ok_fr0 (fr : Bool) (n : Nat) (x_ : Nat) {r : Nat} (h : m_math_Trunc n x_ = some r) : ACall prog fr 121 [.d (.fl .f64 x_)] [] (fun v o new => v = .d (.fl .f64 r) ∧ o = [] ∧ new = []) := by
  refine acall_of_aw hτ func121 rfl (by simp) (by simp) ?_
  unfold m_math_Trunc at h
  refine aw_seq ?_
  refine aw_region ?_
  refine awl_val hτ rfl rfl rfl ?_
  refine awl_nil ?_
  refine aw_seq ?_
  refine aw_cond (b := true) rfl (fun _ => ?_) (fun hd => nomatch hd)
  refine aw_seq ?_
  refine aw_region ?_
  refine awl_val hτ rfl rfl rfl ?_
  refine grd_elim h fun hg3 h => ?_
  refine awl_ext hτ rfl rfl rfl (ext136 hg3) ?_
  refine awl_val hτ rfl rfl rfl ?_
  refine awl_nil ?_
  refine aw_weak (weak_ofP [] (l := [(2, .d (.fl .f64 (fint .zero x_)))]) (objs := []) rfl (by simp) rfl (by repeat' first | exact trivial | refine ⟨?_, ?_⟩) ⟨rfl, trivial, trivial⟩) ?_
  refine aw_ret ?_
  have hr := Option.some.inj h
  subst hr
  exact ret_objs (.inr rfl) [] (objs' := []) (new := []) rfl (by simp) (by simp) rfl (by repeat' first | exact trivial | refine ⟨?_, ?_⟩) rfl rfl (by repeat' first | exact trivial | refine ⟨?_, ?_⟩) (fun _ => ⟨by simp [V.flat, V.flatA, V.flatC, D.flat], flat_nil⟩) ⟨rfl, rfl, rfl⟩
theorem math_Trunc_ok (n : Nat) (x_ : Nat) {r : Nat} (h : m_math_Trunc n x_ = some r) : ACall prog false 121 [.d (.fl .f64 x_)] [] (fun v o new => v = .d (.fl .f64 r) ∧ o = [] ∧ new = []) := math_Trunc_ok_fr0 false n x_ h
theorem math_Trunc_ok_fr (n : Nat) (x_ : Nat) {r : Nat} (h : m_math_Trunc n x_ = some r) : ACall prog true 121 [.d (.fl .f64 x_)] [] (fun v o new => v = .d (.fl .f64 r) ∧ o = [] ∧ new = []) := math_Trunc_ok_fr0 true n x_ h

def m_impl_partOf_j1 (n : Nat) (v6 : Nat) : Option Nat :=
  if (fcmp .lss .f64 v6 (0 : Nat)) = true then
    some (farith .add .f64 v6 (4607182418800017408 : Nat))
  else
    some v6
def m_impl_partOf (n : Nat) (f_ : Nat) : Option Nat :=
  (m_math_Trunc n f_).bind fun x9 =>
  if (fcmp .neq .f64 x9 (0 : Nat)) = true then
    m_impl_partOf_j1 n (farith .sub .f64 f_ x9)
  else
    m_impl_partOf_j1 n f_
theorem impl_partOf_ok_fr0 (fr : Bool) (n : Nat) (f_ : Nat) {r : Nat} (h : m_impl_partOf n f_ = some r) : ACall prog fr 101 [.d (.fl .f64 f_)] [] (fun v o new => v = .d (.fl .f64 r) ∧ o = [] ∧ new = []) := by
  refine acall_of_aw hτ func101 rfl (by simp) (by simp) ?_
  unfold m_impl_partOf at h
  refine aw_seq ?_
  refine aw_region ?_
  refine awl_val hτ rfl rfl rfl ?_
  refine awl_nil ?_
  refine aw_hk1 (ι := Nat) (fun v6 => St.of [(0, .d (.fl .f64 v6))] [] f101.ntmps 0) (fun v6 => m_impl_partOf_j1 n v6 = some r) ?_ (fun hk8 => ?_)
  · rintro v6 h
    replace h : m_impl_partOf_j1 n v6 = some r := h
    unfold m_impl_partOf_j1 at h
    refine aw_seq ?_
    refine aw_seq ?_
    refine aw_region ?_
    refine awl_val hτ rfl rfl rfl ?_
    refine awl_val hτ rfl rfl rfl ?_
    refine awl_nil ?_
    refine aw_cond rfl (fun hc7 => ?_) (fun hc7 => ?_)
    · have h := if_bt h hc7
      refine aw_region ?_
      refine awl_val hτ rfl rfl rfl ?_
      refine awl_val hτ rfl rfl rfl ?_
      refine awl_val hτ rfl rfl rfl ?_
      refine awl_nil ?_
      refine aw_seq ?_
      refine aw_region ?_
      refine awl_val hτ rfl rfl rfl ?_
      refine awl_val hτ rfl rfl rfl ?_
      refine awl_nil ?_
      refine aw_weak (weak_ofP [] (l := [(2, .d (.fl .f64 (farith .add .f64 v6 (4607182418800017408 : Nat))))]) (objs := []) rfl (by simp) rfl (by repeat' first | exact trivial | refine ⟨?_, ?_⟩) ⟨rfl, trivial, trivial⟩) ?_
      refine aw_ret ?_
      have hr := Option.some.inj h
      subst hr
      exact ret_objs (.inr rfl) [] (objs' := []) (new := []) rfl (by simp) (by simp) rfl (by repeat' first | exact trivial | refine ⟨?_, ?_⟩) rfl rfl (by repeat' first | exact trivial | refine ⟨?_, ?_⟩) (fun _ => ⟨by simp [V.flat, V.flatA, V.flatC, D.flat], flat_nil⟩) ⟨rfl, rfl, rfl⟩
    · have h := if_bf h hc7
      refine aw_skip ?_
      refine aw_seq ?_
      refine aw_region ?_
      refine awl_val hτ rfl rfl rfl ?_
      refine awl_val hτ rfl rfl rfl ?_
      refine awl_nil ?_
      refine aw_weak (weak_ofP [] (l := [(2, .d (.fl .f64 v6))]) (objs := []) rfl (by simp) rfl (by repeat' first | exact trivial | refine ⟨?_, ?_⟩) ⟨rfl, trivial, trivial⟩) ?_
      refine aw_ret ?_
      have hr := Option.some.inj h
      subst hr
      exact ret_objs (.inr rfl) [] (objs' := []) (new := []) rfl (by simp) (by simp) rfl (by repeat' first | exact trivial | refine ⟨?_, ?_⟩) rfl rfl (by repeat' first | exact trivial | refine ⟨?_, ?_⟩) (fun _ => ⟨by simp [V.flat, V.flatA, V.flatC, D.flat], flat_nil⟩) ⟨rfl, rfl, rfl⟩
  · refine aw_seq ?_
    refine aw_seq ?_
    refine aw_region ?_
    refine awl_val hτ rfl rfl rfl ?_
    refine bnd_elim h fun x9 hx9 h => ?_
    refine awl_callP hτ false [] rfl rfl rfl (enterOk func121 rfl rfl) rfl rfl (by simp) ⟨trivial, trivial⟩ (by repeat' first | exact trivial | refine ⟨?_, ?_⟩) (math_Trunc_ok n f_ hx9) ?_
    rintro r0 o0 n0 ⟨rfl, rfl, rfl⟩ -
    refine awl_val hτ rfl rfl rfl ?_
    refine awl_nil ?_
    refine aw_seq ?_
    refine aw_region ?_
    refine awl_val hτ rfl rfl rfl ?_
    refine awl_val hτ rfl rfl rfl ?_
    refine awl_nil ?_
    refine aw_weak (weak_ofP [] (l := [(0, .d (.fl .f64 f_)), (3, .d (.fl .f64 x9)), (7, .d (.bool (fcmp .neq .f64 x9 (0 : Nat))))]) (objs := []) rfl (by simp) rfl (by repeat' first | exact trivial | refine ⟨?_, ?_⟩) ⟨rfl, trivial, rfl, trivial, rfl, trivial, trivial⟩) ?_
    refine aw_cond rfl (fun hc10 => ?_) (fun hc10 => ?_)
    · have h := if_bt h hc10
      refine aw_region ?_
      refine awl_val hτ rfl rfl rfl ?_
      refine awl_val hτ rfl rfl rfl ?_
      refine awl_val hτ rfl rfl rfl ?_
      refine awl_val hτ rfl rfl rfl ?_
      refine awl_nil ?_
      refine aw_weak (weak_ofP [] (l := [(0, .d (.fl .f64 (farith .sub .f64 f_ x9)))]) (objs := []) rfl (by simp) rfl (by repeat' first | exact trivial | refine ⟨?_, ?_⟩) ⟨rfl, trivial, trivial⟩) ?_
      exact hk8 (farith .sub .f64 f_ x9) h
    · have h := if_bf h hc10
      refine aw_skip ?_
      refine aw_weak (weak_ofP [] (l := [(0, .d (.fl .f64 f_))]) (objs := []) rfl (by simp) rfl (by repeat' first | exact trivial | refine ⟨?_, ?_⟩) ⟨rfl, trivial, trivial⟩) ?_
      exact hk8 f_ h
theorem impl_partOf_ok (n : Nat) (f_ : Nat) {r : Nat} (h : m_impl_partOf n f_ = some r) : ACall prog false 101 [.d (.fl .f64 f_)] [] (fun v o new => v = .d (.fl .f64 r) ∧ o = [] ∧ new = []) := impl_partOf_ok_fr0 false n f_ h
theorem impl_partOf_ok_fr (n : Nat) (f_ : Nat) {r : Nat} (h : m_impl_partOf n f_ = some r) : ACall prog true 101 [.d (.fl .f64 f_)] [] (fun v o new => v = .d (.fl .f64 r) ∧ o = [] ∧ new = []) := impl_partOf_ok_fr0 true n f_ h

def m_impl_sine_j3 (n : Nat) (x8 : Nat) (v12 : Nat) (v17 : Nat) : Option Nat :=
  if (fcmp .geq .f64 x8 (4602678819172646912 : Nat)) = true then
    some (fneg .f64 (farith .mul .f64 (farith .mul .f64 v12 (4618760256179416344 : Nat)) v17))
  else
    some (farith .mul .f64 (farith .mul .f64 v12 (4618760256179416344 : Nat)) v17)
def m_impl_sine_l4 (n : Nat) (x8 : Nat) (v12 : Nat) : Nat → Nat → Int → Option Nat
  | 0, _, _ => none
  | m24 + 1, v20, v21 =>
    if v21 ≥ (1 : Int) then
      (m_impl_sine_l4 n x8 v12 m24) (farith .sub .f64 (4607182418800017408 : Nat) (farith .quo .f64 (farith .mul .f64 (farith .mul .f64 (farith .mul .f64 v12 (4618760256179416344 : Nat)) (farith .mul .f64 v12 (4618760256179416344 : Nat))) v20) (FloatKind.nearest .f64 (w64 ((w64 ((2 : Int) * v21)) * (w64 ((w64 ((2 : Int) * v21)) + (1 : Int)))))))) (w64 (v21 - (1 : Int)))
    else
      m_impl_sine_j3 n x8 v12 v20
def m_impl_sine_j2 (n : Nat) (x8 : Nat) (v12 : Nat) : Option Nat :=
  m_impl_sine_l4 n x8 v12 n (4607182418800017408 : Nat) (8 : Int)
def m_impl_sine_j1 (n : Nat) (x8 : Nat) (v10 : Nat) : Option Nat :=
  if (fcmp .gtr .f64 v10 (4598175219545276416 : Nat)) = true then
    m_impl_sine_j2 n x8 (farith .sub .f64 (4602678819172646912 : Nat) v10)
  else
    m_impl_sine_j2 n x8 v10
def m_impl_sine (n : Nat) (turns_ : Nat) : Option Nat :=
  (m_impl_partOf n turns_).bind fun x8 =>
  if (fcmp .geq .f64 x8 (4602678819172646912 : Nat)) = true then
    m_impl_sine_j1 n x8 (farith .sub .f64 x8 (4602678819172646912 : Nat))
  else
    m_impl_sine_j1 n x8 x8
theorem impl_sine_ok_fr0 (fr : Bool) (n : Nat) (turns_ : Nat) {r : Nat} (h : m_impl_sine n turns_ = some r) : ACall prog fr 77 [.d (.fl .f64 turns_)] [] (fun v o new => v = .d (.fl .f64 r) ∧ o = [] ∧ new = []) := by
  refine acall_of_aw hτ func77 rfl (by simp) (by simp) ?_
  unfold m_impl_sine at h
  refine aw_seq ?_
  refine aw_region ?_
  refine awl_val hτ rfl rfl rfl ?_
  refine awl_nil ?_
  refine aw_seq ?_
  refine aw_region ?_
  refine awl_val hτ rfl rfl rfl ?_
  refine bnd_elim h fun x8 hx8 h => ?_
  refine awl_callP hτ false [] rfl rfl rfl (enterOk func101 rfl rfl) rfl rfl (by simp) ⟨trivial, trivial⟩ (by repeat' first | exact trivial | refine ⟨?_, ?_⟩) (impl_partOf_ok n turns_ hx8) ?_
  rintro r0 o0 n0 ⟨rfl, rfl, rfl⟩ -
  refine awl_val hτ rfl rfl rfl ?_
  refine awl_nil ?_
  refine aw_seq ?_
  refine aw_region ?_
  refine awl_val hτ rfl rfl rfl ?_
  refine awl_val hτ rfl rfl rfl ?_
  refine awl_val hτ rfl rfl rfl ?_
  refine awl_nil ?_
  refine aw_hk1 (ι := Nat) (fun v10 => St.of [(3, .d (.fl .f64 v10)), (4, .d (.bool (fcmp .geq .f64 x8 (4602678819172646912 : Nat))))] [] f77.ntmps 0) (fun v10 => m_impl_sine_j1 n x8 v10 = some r) ?_ (fun hk29 => ?_)
  · rintro v10 h
    replace h : m_impl_sine_j1 n x8 v10 = some r := h
    unfold m_impl_sine_j1 at h
    refine aw_hk1 (ι := Nat) (fun v12 => St.of [(3, .d (.fl .f64 v12)), (4, .d (.bool (fcmp .geq .f64 x8 (4602678819172646912 : Nat))))] [] f77.ntmps 0) (fun v12 => m_impl_sine_j2 n x8 v12 = some r) ?_ (fun hk27 => ?_)
    · rintro v12 h
      replace h : m_impl_sine_j2 n x8 v12 = some r := h
      unfold m_impl_sine_j2 at h
      refine aw_seq ?_
      refine aw_region ?_
      refine awl_val hτ rfl rfl rfl ?_
      refine awl_val hτ rfl rfl rfl ?_
      refine awl_val hτ rfl rfl rfl ?_
      refine awl_nil ?_
      refine aw_seq ?_
      refine aw_region ?_
      refine awl_val hτ rfl rfl rfl ?_
      refine awl_val hτ rfl rfl rfl ?_
      refine awl_val hτ rfl rfl rfl ?_
      refine awl_val hτ rfl rfl rfl ?_
      refine awl_val hτ rfl rfl rfl ?_
      refine awl_nil ?_
      refine aw_hk1 (ι := Nat) (fun v17 => St.of [(4, .d (.bool (fcmp .geq .f64 x8 (4602678819172646912 : Nat)))), (5, .d (.fl .f64 (farith .mul .f64 v12 (4618760256179416344 : Nat)))), (7, .d (.fl .f64 v17))] [] f77.ntmps 0) (fun v17 => m_impl_sine_j3 n x8 v12 v17 = some r) ?_ (fun hk19 => ?_)
      · rintro v17 h
        replace h : m_impl_sine_j3 n x8 v12 v17 = some r := h
        unfold m_impl_sine_j3 at h
        refine aw_seq ?_
        refine aw_seq ?_
        refine aw_region ?_
        refine awl_val hτ rfl rfl rfl ?_
        refine awl_nil ?_
        refine aw_cond rfl (fun hc18 => ?_) (fun hc18 => ?_)
        · have h := if_bt h hc18
          refine aw_seq ?_
          refine aw_region ?_
          refine awl_val hτ rfl rfl rfl ?_
          refine awl_val hτ rfl rfl rfl ?_
          refine awl_val hτ rfl rfl rfl ?_
          refine awl_val hτ rfl rfl rfl ?_
          refine awl_val hτ rfl rfl rfl ?_
          refine awl_nil ?_
          refine aw_weak (weak_ofP [] (l := [(2, .d (.fl .f64 (fneg .f64 (farith .mul .f64 (farith .mul .f64 v12 (4618760256179416344 : Nat)) v17))))]) (objs := []) rfl (by simp) rfl (by repeat' first | exact trivial | refine ⟨?_, ?_⟩) ⟨rfl, trivial, trivial⟩) ?_
          refine aw_ret ?_
          have hr := Option.some.inj h
          subst hr
          exact ret_objs (.inr rfl) [] (objs' := []) (new := []) rfl (by simp) (by simp) rfl (by repeat' first | exact trivial | refine ⟨?_, ?_⟩) rfl rfl (by repeat' first | exact trivial | refine ⟨?_, ?_⟩) (fun _ => ⟨by simp [V.flat, V.flatA, V.flatC, D.flat], flat_nil⟩) ⟨rfl, rfl, rfl⟩
        · have h := if_bf h hc18
          refine aw_skip ?_
          refine aw_seq ?_
          refine aw_region ?_
          refine awl_val hτ rfl rfl rfl ?_
          refine awl_val hτ rfl rfl rfl ?_
          refine awl_val hτ rfl rfl rfl ?_
          refine awl_val hτ rfl rfl rfl ?_
          refine awl_nil ?_
          refine aw_weak (weak_ofP [] (l := [(2, .d (.fl .f64 (farith .mul .f64 (farith .mul .f64 v12 (4618760256179416344 : Nat)) v17)))]) (objs := []) rfl (by simp) rfl (by repeat' first | exact trivial | refine ⟨?_, ?_⟩) ⟨rfl, trivial, trivial⟩) ?_
          refine aw_ret ?_
          have hr := Option.some.inj h
          subst hr
          exact ret_objs (.inr rfl) [] (objs' := []) (new := []) rfl (by simp) (by simp) rfl (by repeat' first | exact trivial | refine ⟨?_, ?_⟩) rfl rfl (by repeat' first | exact trivial | refine ⟨?_, ?_⟩) (fun _ => ⟨by simp [V.flat, V.flatA, V.flatC, D.flat], flat_nil⟩) ⟨rfl, rfl, rfl⟩
      · refine aw_seq ?_
        refine aw_seq ?_
        refine aw_weak (weak_ofP [] (l := [(4, .d (.bool (fcmp .geq .f64 x8 (4602678819172646912 : Nat)))), (5, .d (.fl .f64 (farith .mul .f64 v12 (4618760256179416344 : Nat)))), (6, .d (.fl .f64 (farith .mul .f64 (farith .mul .f64 v12 (4618760256179416344 : Nat)) (farith .mul .f64 v12 (4618760256179416344 : Nat))))), (7, .d (.fl .f64 (4607182418800017408 : Nat)))]) (objs := []) rfl (by simp) rfl (by repeat' first | exact trivial | refine ⟨?_, ?_⟩) ⟨rfl, trivial, rfl, trivial, rfl, trivial, rfl, trivial, trivial⟩) ?_
        refine aw_region ?_
        refine awl_val hτ rfl rfl rfl ?_
        refine awl_nil ?_
        refine aw_block ?_
        refine aw_loop (ι := Nat × Nat × Int) (fun (m24, v20, v21) => St.of [(4, .d (.bool (fcmp .geq .f64 x8 (4602678819172646912 : Nat)))), (5, .d (.fl .f64 (farith .mul .f64 v12 (4618760256179416344 : Nat)))), (6, .d (.fl .f64 (farith .mul .f64 (farith .mul .f64 v12 (4618760256179416344 : Nat)) (farith .mul .f64 v12 (4618760256179416344 : Nat))))), (7, .d (.fl .f64 v20)), (8, .d (.int .i64 v21))] [] f77.ntmps 0) (fun (m24, v20, v21) => m_impl_sine_l4 n x8 v12 m24 v20 v21 = some r) (fun x => x.1) (n, (4607182418800017408 : Nat), (8 : Int)) h (weak_ofP [] (l := [(4, .d (.bool (fcmp .geq .f64 x8 (4602678819172646912 : Nat)))), (5, .d (.fl .f64 (farith .mul .f64 v12 (4618760256179416344 : Nat)))), (6, .d (.fl .f64 (farith .mul .f64 (farith .mul .f64 v12 (4618760256179416344 : Nat)) (farith .mul .f64 v12 (4618760256179416344 : Nat))))), (7, .d (.fl .f64 (4607182418800017408 : Nat))), (8, .d (.int .i64 (8 : Int)))]) (objs := []) rfl (by simp) rfl (by repeat' first | exact trivial | refine ⟨?_, ?_⟩) ⟨rfl, trivial, rfl, trivial, rfl, trivial, rfl, trivial, rfl, trivial, trivial⟩) ?_
        rintro ⟨m24, v20, v21⟩ h
        replace h : m_impl_sine_l4 n x8 v12 m24 v20 v21 = some r := h
        rcases m24 with _ | m24
        · rw [m_impl_sine_l4] at h; cases h
        rw [m_impl_sine_l4] at h
        refine aw_seq ?_
        refine aw_seq ?_
        refine aw_region ?_
        refine awl_val hτ rfl rfl rfl ?_
        refine awl_val hτ rfl rfl rfl ?_
        refine awl_nil ?_
        refine aw_cond rfl (fun hc26 => ?_) (fun hc26 => ?_)
        · have h := if_t h hc26
          refine aw_skip ?_
          refine aw_seq ?_
          refine aw_block ?_
          refine aw_region ?_
          refine awl_val hτ rfl rfl rfl ?_
          refine awl_val hτ rfl rfl rfl ?_
          refine awl_val hτ rfl rfl rfl ?_
          refine awl_val hτ rfl rfl rfl ?_
          refine awl_val hτ rfl rfl rfl ?_
          refine awl_val hτ rfl rfl rfl ?_
          refine awl_val hτ rfl rfl rfl ?_
          refine awl_val hτ rfl rfl rfl ?_
          refine awl_val hτ rfl rfl rfl ?_
          refine awl_val hτ rfl rfl rfl ?_
          refine awl_weak (weak_ofP [] (l := [(4, .d (.bool (fcmp .geq .f64 x8 (4602678819172646912 : Nat)))), (5, .d (.fl .f64 (farith .mul .f64 v12 (4618760256179416344 : Nat)))), (6, .d (.fl .f64 (farith .mul .f64 (farith .mul .f64 v12 (4618760256179416344 : Nat)) (farith .mul .f64 v12 (4618760256179416344 : Nat))))), (7, .d (.fl .f64 v20)), (8, .d (.int .i64 v21)), (31, .d (.fl .f64 (farith .mul .f64 (farith .mul .f64 (farith .mul .f64 v12 (4618760256179416344 : Nat)) (farith .mul .f64 v12 (4618760256179416344 : Nat))) v20))), (38, .d (.fl .f64 (FloatKind.nearest .f64 (w64 ((w64 ((2 : Int) * v21)) * (w64 ((w64 ((2 : Int) * v21)) + (1 : Int))))))))]) (objs := []) rfl (by simp) rfl (by repeat' first | exact trivial | refine ⟨?_, ?_⟩) ⟨rfl, trivial, rfl, trivial, rfl, trivial, rfl, trivial, rfl, trivial, rfl, trivial, rfl, trivial, trivial⟩) ?_
          refine awl_val hτ rfl rfl rfl ?_
          refine awl_val hτ rfl rfl rfl ?_
          refine awl_val hτ rfl rfl rfl ?_
          refine awl_nil ?_
          refine aw_region ?_
          refine awl_val hτ rfl rfl rfl ?_
          refine awl_val hτ rfl rfl rfl ?_
          refine awl_val hτ rfl rfl rfl ?_
          refine awl_nil ?_
          exact ⟨(m24, (farith .sub .f64 (4607182418800017408 : Nat) (farith .quo .f64 (farith .mul .f64 (farith .mul .f64 (farith .mul .f64 v12 (4618760256179416344 : Nat)) (farith .mul .f64 v12 (4618760256179416344 : Nat))) v20) (FloatKind.nearest .f64 (w64 ((w64 ((2 : Int) * v21)) * (w64 ((w64 ((2 : Int) * v21)) + (1 : Int)))))))), (w64 (v21 - (1 : Int)))), h, Nat.lt_succ_self m24, (weak_ofP [] (l := [(4, .d (.bool (fcmp .geq .f64 x8 (4602678819172646912 : Nat)))), (5, .d (.fl .f64 (farith .mul .f64 v12 (4618760256179416344 : Nat)))), (6, .d (.fl .f64 (farith .mul .f64 (farith .mul .f64 v12 (4618760256179416344 : Nat)) (farith .mul .f64 v12 (4618760256179416344 : Nat))))), (7, .d (.fl .f64 (farith .sub .f64 (4607182418800017408 : Nat) (farith .quo .f64 (farith .mul .f64 (farith .mul .f64 (farith .mul .f64 v12 (4618760256179416344 : Nat)) (farith .mul .f64 v12 (4618760256179416344 : Nat))) v20) (FloatKind.nearest .f64 (w64 ((w64 ((2 : Int) * v21)) * (w64 ((w64 ((2 : Int) * v21)) + (1 : Int)))))))))), (8, .d (.int .i64 (w64 (v21 - (1 : Int)))))]) (objs := []) rfl (by simp) rfl (by repeat' first | exact trivial | refine ⟨?_, ?_⟩) ⟨rfl, trivial, rfl, trivial, rfl, trivial, rfl, trivial, rfl, trivial, trivial⟩)⟩
        · have h := if_f h hc26
          refine aw_exit ?_
          refine aw_weak (weak_ofP [] (l := [(4, .d (.bool (fcmp .geq .f64 x8 (4602678819172646912 : Nat)))), (5, .d (.fl .f64 (farith .mul .f64 v12 (4618760256179416344 : Nat)))), (7, .d (.fl .f64 v20))]) (objs := []) rfl (by simp) rfl (by repeat' first | exact trivial | refine ⟨?_, ?_⟩) ⟨rfl, trivial, rfl, trivial, rfl, trivial, trivial⟩) ?_
          exact hk19 v20 h
    · refine aw_seq ?_
      refine aw_seq ?_
      refine aw_region ?_
      refine awl_val hτ rfl rfl rfl ?_
      refine awl_val hτ rfl rfl rfl ?_
      refine awl_nil ?_
      refine aw_cond rfl (fun hc28 => ?_) (fun hc28 => ?_)
      · have h := if_bt h hc28
        refine aw_region ?_
        refine awl_val hτ rfl rfl rfl ?_
        refine awl_val hτ rfl rfl rfl ?_
        refine awl_val hτ rfl rfl rfl ?_
        refine awl_nil ?_
        refine aw_weak (weak_ofP [] (l := [(3, .d (.fl .f64 (farith .sub .f64 (4602678819172646912 : Nat) v10))), (4, .d (.bool (fcmp .geq .f64 x8 (4602678819172646912 : Nat))))]) (objs := []) rfl (by simp) rfl (by repeat' first | exact trivial | refine ⟨?_, ?_⟩) ⟨rfl, trivial, rfl, trivial, trivial⟩) ?_
        exact hk27 (farith .sub .f64 (4602678819172646912 : Nat) v10) h
      · have h := if_bf h hc28
        refine aw_skip ?_
        refine aw_weak (weak_ofP [] (l := [(3, .d (.fl .f64 v10)), (4, .d (.bool (fcmp .geq .f64 x8 (4602678819172646912 : Nat))))]) (objs := []) rfl (by simp) rfl (by repeat' first | exact trivial | refine ⟨?_, ?_⟩) ⟨rfl, trivial, rfl, trivial, trivial⟩) ?_
        exact hk27 v10 h
  · refine aw_seq ?_
    refine aw_seq ?_
    refine aw_weak (weak_ofP [] (l := [(3, .d (.fl .f64 x8)), (4, .d (.bool (fcmp .geq .f64 x8 (4602678819172646912 : Nat))))]) (objs := []) rfl (by simp) rfl (by repeat' first | exact trivial | refine ⟨?_, ?_⟩) ⟨rfl, trivial, rfl, trivial, trivial⟩) ?_
    refine aw_region ?_
    refine awl_val hτ rfl rfl rfl ?_
    refine awl_nil ?_
    refine aw_cond rfl (fun hc30 => ?_) (fun hc30 => ?_)
    · have h := if_bt h hc30
      refine aw_region ?_
      refine awl_val hτ rfl rfl rfl ?_
      refine awl_val hτ rfl rfl rfl ?_
      refine awl_val hτ rfl rfl rfl ?_
      refine awl_nil ?_
      refine aw_weak (weak_ofP [] (l := [(3, .d (.fl .f64 (farith .sub .f64 x8 (4602678819172646912 : Nat)))), (4, .d (.bool (fcmp .geq .f64 x8 (4602678819172646912 : Nat))))]) (objs := []) rfl (by simp) rfl (by repeat' first | exact trivial | refine ⟨?_, ?_⟩) ⟨rfl, trivial, rfl, trivial, trivial⟩) ?_
      exact hk29 (farith .sub .f64 x8 (4602678819172646912 : Nat)) h
    · have h := if_bf h hc30
      refine aw_skip ?_
      refine aw_weak (weak_ofP [] (l := [(3, .d (.fl .f64 x8)), (4, .d (.bool (fcmp .geq .f64 x8 (4602678819172646912 : Nat))))]) (objs := []) rfl (by simp) rfl (by repeat' first | exact trivial | refine ⟨?_, ?_⟩) ⟨rfl, trivial, rfl, trivial, trivial⟩) ?_
      exact hk29 x8 h
theorem impl_sine_ok (n : Nat) (turns_ : Nat) {r : Nat} (h : m_impl_sine n turns_ = some r) : ACall prog false 77 [.d (.fl .f64 turns_)] [] (fun v o new => v = .d (.fl .f64 r) ∧ o = [] ∧ new = []) := impl_sine_ok_fr0 false n turns_ h
theorem impl_sine_ok_fr (n : Nat) (turns_ : Nat) {r : Nat} (h : m_impl_sine n turns_ = some r) : ACall prog true 77 [.d (.fl .f64 turns_)] [] (fun v o new => v = .d (.fl .f64 r) ∧ o = [] ∧ new = []) := impl_sine_ok_fr0 true n turns_ h

def m_impl_SineTurns (n : Nat) (x_ : Nat) : Option Nat :=
  (m_impl_IsFinite n x_).bind fun x12 =>
  if x12 = true then
    (fconv .f32 .f64 x_).bind fun x15 =>
    (m_math_Abs n x15).bind fun x16 =>
    if (fcmp .geq .f64 x16 (4841369599423283200 : Nat)) = true then
      some (0 : Nat)
    else
      (fconv .f32 .f64 x_).bind fun x18 =>
      (m_impl_sine n x18).bind fun x19 =>
      (fconv .f64 .f32 x19).bind fun x20 =>
      some x20
  else
    (m_impl_nan n).bind fun x14 =>
    some x14
theorem impl_SineTurns_ok_fr0 (fr : Bool) (n : Nat) (x_ : Nat) {r : Nat} (h : m_impl_SineTurns n x_ = some r) : ACall prog fr 38 [.d (.fl .f32 x_)] [] (fun v o new => v = .d (.fl .f32 r) ∧ o = [] ∧ new = []) := by
  refine acall_of_aw hτ func38 rfl (by simp) (by simp) ?_
  unfold m_impl_SineTurns at h
  refine aw_seq ?_
  refine aw_region ?_
  refine awl_val hτ rfl rfl rfl ?_
  refine awl_nil ?_
  refine aw_seq ?_
  refine aw_block ?_
  refine aw_seq ?_
  refine aw_region ?_
  refine awl_val hτ rfl rfl rfl ?_
  refine bnd_elim h fun x12 hx12 h => ?_
  refine awl_callP hτ false [] rfl rfl rfl (enterOk func75 rfl rfl) rfl rfl (by simp) ⟨trivial, trivial⟩ (by repeat' first | exact trivial | refine ⟨?_, ?_⟩) (impl_IsFinite_ok n x_ hx12) ?_
  rintro r0 o0 n0 ⟨rfl, rfl, rfl⟩ -
  refine awl_val hτ rfl rfl rfl ?_
  refine awl_val hτ rfl rfl rfl ?_
  refine awl_nil ?_
  refine aw_cond rfl (fun hc13 => ?_) (fun hc13 => ?_)
  · have hc13 := not_t hc13
    have h := if_bf h hc13
    refine aw_seq ?_
    refine aw_region ?_
    refine bnd_elim h fun x14 hx14 h => ?_
    refine awl_callP hτ false [] rfl rfl rfl (enterOk func76 rfl rfl) rfl rfl (by simp) trivial (by repeat' first | exact trivial | refine ⟨?_, ?_⟩) (impl_nan_ok n hx14) ?_
    rintro r0 o0 n0 ⟨rfl, rfl, rfl⟩ -
    refine awl_val hτ rfl rfl rfl ?_
    refine awl_nil ?_
    refine aw_weak (weak_ofP [] (l := [(2, .d (.fl .f32 x14))]) (objs := []) rfl (by simp) rfl (by repeat' first | exact trivial | refine ⟨?_, ?_⟩) ⟨rfl, trivial, trivial⟩) ?_
    refine aw_ret ?_
    have hr := Option.some.inj h
    subst hr
    exact ret_objs (.inr rfl) [] (objs' := []) (new := []) rfl (by simp) (by simp) rfl (by repeat' first | exact trivial | refine ⟨?_, ?_⟩) rfl rfl (by repeat' first | exact trivial | refine ⟨?_, ?_⟩) (fun _ => ⟨by simp [V.flat, V.flatA, V.flatC, D.flat], flat_nil⟩) ⟨rfl, rfl, rfl⟩
  · have hc13 := not_f hc13
    have h := if_bt h hc13
    refine aw_seq ?_
    refine aw_region ?_
    refine awl_val hτ rfl rfl rfl ?_
    refine bnd_elim h fun x15 hx15 h => ?_
    refine awl_val hτ (v := .d (.fl .f64 x15)) rfl rfl (conv_val hx15) ?_
    refine bnd_elim h fun x16 hx16 h => ?_
    refine awl_callP hτ false [] rfl rfl rfl (enterOk func74 rfl rfl) rfl rfl (by simp) ⟨trivial, trivial⟩ (by repeat' first | exact trivial | refine ⟨?_, ?_⟩) (math_Abs_ok n x15 hx16) ?_
    rintro r0 o0 n0 ⟨rfl, rfl, rfl⟩ -
    refine awl_val hτ rfl rfl rfl ?_
    refine awl_val hτ rfl rfl rfl ?_
    refine awl_nil ?_
    refine aw_weak (weak_ofP [] (l := [(0, .d (.fl .f32 x_)), (8, .d (.bool (fcmp .geq .f64 x16 (4841369599423283200 : Nat))))]) (objs := []) rfl (by simp) rfl (by repeat' first | exact trivial | refine ⟨?_, ?_⟩) ⟨rfl, trivial, rfl, trivial, trivial⟩) ?_
    refine aw_cond rfl (fun hc17 => ?_) (fun hc17 => ?_)
    · have h := if_bt h hc17
      refine aw_seq ?_
      refine aw_region ?_
      refine awl_val hτ rfl rfl rfl ?_
      refine awl_nil ?_
      refine aw_weak (weak_ofP [] (l := [(2, .d (.fl .f32 (0 : Nat)))]) (objs := []) rfl (by simp) rfl (by repeat' first | exact trivial | refine ⟨?_, ?_⟩) ⟨rfl, trivial, trivial⟩) ?_
      refine aw_ret ?_
      have hr := Option.some.inj h
      subst hr
      exact ret_objs (.inr rfl) [] (objs' := []) (new := []) rfl (by simp) (by simp) rfl (by repeat' first | exact trivial | refine ⟨?_, ?_⟩) rfl rfl (by repeat' first | exact trivial | refine ⟨?_, ?_⟩) (fun _ => ⟨by simp [V.flat, V.flatA, V.flatC, D.flat], flat_nil⟩) ⟨rfl, rfl, rfl⟩
    · have h := if_bf h hc17
      refine aw_skip ?_
      refine aw_seq ?_
      refine aw_region ?_
      refine awl_val hτ rfl rfl rfl ?_
      refine bnd_elim h fun x18 hx18 h => ?_
      refine awl_val hτ (v := .d (.fl .f64 x18)) rfl rfl (conv_val hx18) ?_
      refine bnd_elim h fun x19 hx19 h => ?_
      refine awl_callP hτ false [] rfl rfl rfl (enterOk func77 rfl rfl) rfl rfl (by simp) ⟨trivial, trivial⟩ (by repeat' first | exact trivial | refine ⟨?_, ?_⟩) (impl_sine_ok n x18 hx19) ?_
      rintro r0 o0 n0 ⟨rfl, rfl, rfl⟩ -
      refine bnd_elim h fun x20 hx20 h => ?_
      refine awl_val hτ (v := .d (.fl .f32 x20)) rfl rfl (conv_val hx20) ?_
      refine awl_val hτ rfl rfl rfl ?_
      refine awl_nil ?_
      refine aw_weak (weak_ofP [] (l := [(2, .d (.fl .f32 x20))]) (objs := []) rfl (by simp) rfl (by repeat' first | exact trivial | refine ⟨?_, ?_⟩) ⟨rfl, trivial, trivial⟩) ?_
      refine aw_ret ?_
      have hr := Option.some.inj h
      subst hr
      exact ret_objs (.inr rfl) [] (objs' := []) (new := []) rfl (by simp) (by simp) rfl (by repeat' first | exact trivial | refine ⟨?_, ?_⟩) rfl rfl (by repeat' first | exact trivial | refine ⟨?_, ?_⟩) (fun _ => ⟨by simp [V.flat, V.flatA, V.flatC, D.flat], flat_nil⟩) ⟨rfl, rfl, rfl⟩
theorem impl_SineTurns_ok (n : Nat) (x_ : Nat) {r : Nat} (h : m_impl_SineTurns n x_ = some r) : ACall prog false 38 [.d (.fl .f32 x_)] [] (fun v o new => v = .d (.fl .f32 r) ∧ o = [] ∧ new = []) := impl_SineTurns_ok_fr0 false n x_ h
theorem impl_SineTurns_ok_fr (n : Nat) (x_ : Nat) {r : Nat} (h : m_impl_SineTurns n x_ = some r) : ACall prog true 38 [.d (.fl .f32 x_)] [] (fun v o new => v = .d (.fl .f32 r) ∧ o = [] ∧ new = []) := impl_SineTurns_ok_fr0 true n x_ h

def m_laws_FnNumbers_j3 (n : Nat) (x54 : Nat) (x55 : Nat) : Option Bool :=
  (m_impl_AngleTurns n x55 x54).bind fun x93 =>
  (m_impl_AngleOf n (Cx.mk x54 x55)).bind fun x94 =>
  (m_spec_SameNumber n x93 x94).bind fun x95 =>
  if x95 = true then
    (fconv .f32 .f64 x54).bind fun x97 =>
    (m_impl_NarrowNumber n x97).bind fun x98 =>
    (m_spec_SameNumber n x98 x54).bind fun x99 =>
    if x99 = true then
      (m_impl_SineTurns n (1048576000 : Nat)).bind fun x101 =>
      some (fcmp .eql .f32 x101 (1065353216 : Nat))
    else
      some false
  else
    some false
def m_laws_FnNumbers_l4 (n : Nat) (x54 : Nat) (x55 : Nat) (x60 : List Nat) (x70 : List Nat × Bool) : Nat → Int → Option Bool
  | 0, _ => none
  | m111 + 1, v106 =>
    if v106 < (x60.length : Int) then
      (getI x70.1 v106).bind fun x117 =>
      (getI x60 v106).bind fun x118 =>
      (m_spec_SameNumber n x117 x118).bind fun x119 =>
      if x119 = true then
        (m_laws_FnNumbers_l4 n x54 x55 x60 x70 m111) (w64 (v106 + (1 : Int)))
      else
        some false
    else
      m_laws_FnNumbers_j3 n x54 x55
def m_laws_FnNumbers_j2 (n : Nat) (x54 : Nat) (x55 : Nat) (x60 : List Nat) (x70 : List Nat × Bool) : Option Bool :=
  m_laws_FnNumbers_l4 n x54 x55 x60 x70 n (0 : Int)
def m_laws_FnNumbers_j5 (n : Nat) (x54 : Nat) (x55 : Nat) (x60 : List Nat) (x70 : List Nat × Bool) (v136 : Bool) : Option Bool :=
  if v136 = true then
    some false
  else
    m_laws_FnNumbers_j2 n x54 x55 x60 x70
def m_laws_FnNumbers_j1 (n : Nat) (x54 : Nat) (x55 : Nat) (x57 : Nat × Bool) (x58 : Nat) (x60 : List Nat) (v67 : Nat) : Option Bool :=
  (m_impl_SumNumbers n x60).bind fun x68 =>
  (m_impl_NumbersText n x60).bind fun x69 =>
  (m_impl_ReadNumbers n x69.1).bind fun x70 =>
  if x57.2 = true then
    if x68.2 = true then
      if x69.2 = true then
        if x70.2 = true then
          (m_spec_SameNumber n x57.1 x54).bind fun x143 =>
          if x143 = true then
            (m_impl_IsSubnormal n x58).bind fun x145 =>
            if x145 = true then
              m_laws_FnNumbers_j5 n x54 x55 x60 x70 true
            else
              (m_impl_IsSubnormal n x54).bind fun x147 =>
              (m_spec_SameNumber n x54 x58).bind fun x148 =>
              if (x147 == x148) = true then
                m_laws_FnNumbers_j5 n x54 x55 x60 x70 true
              else
                (m_spec_SameNumber n x68.1 v67).bind fun x150 =>
                if x150 = true then
                  m_laws_FnNumbers_j5 n x54 x55 x60 x70 (!(decide ((x70.1.length : Int) = (x60.length : Int))))
                else
                  m_laws_FnNumbers_j5 n x54 x55 x60 x70 true
          else
            m_laws_FnNumbers_j5 n x54 x55 x60 x70 true
        else
          m_laws_FnNumbers_j5 n x54 x55 x60 x70 true
      else
        m_laws_FnNumbers_j5 n x54 x55 x60 x70 true
    else
      m_laws_FnNumbers_j5 n x54 x55 x60 x70 true
  else
    m_laws_FnNumbers_j5 n x54 x55 x60 x70 true
def m_laws_FnNumbers_l6 (n : Nat) (x54 : Nat) (x55 : Nat) (x57 : Nat × Bool) (x58 : Nat) (x60 : List Nat) : Nat → Nat → Int → Option Bool
  | 0, _, _ => none
  | m159 + 1, v154, v155 =>
    if v155 < (x60.length : Int) then
      (getI x60 v155).bind fun x162 =>
      (m_laws_FnNumbers_l6 n x54 x55 x57 x58 x60 m159) (farith .add .f32 v154 x162) (w64 (v155 + (1 : Int)))
    else
      m_laws_FnNumbers_j1 n x54 x55 x57 x58 x60 v154
def m_laws_FnNumbers (n : Nat) (code_ : List Int) (more_ : List Int) : Option Bool :=
  (m_laws_b10Long n code_ more_).bind fun x52 =>
  if x52 = true then
    some true
  else
    (m_spec_B10Number n code_).bind fun x54 =>
    (m_spec_B10Number n more_).bind fun x55 =>
    (m_impl_BitsOf n x54).bind fun x56 =>
    (m_impl_FromBits n x56).bind fun x57 =>
    (m_impl_FlushNumber n x54).bind fun x58 =>
    (m_laws_b10At n code_ (0 : Int) (12 : Int)).bind fun x59 =>
    (m_spec_B10Numbers n more_ x59).bind fun x60 =>
    m_laws_FnNumbers_l6 n x54 x55 x57 x58 x60 n (0 : Nat) (0 : Int)
theorem laws_FnNumbers_ok_fr0 (fr : Bool) (n : Nat) (code_ : List Int) (more_ : List Int) {r : Bool} (h : m_laws_FnNumbers n code_ more_ = some r) : ACall prog fr 4 [.d (.sl false (code_.map eIntu8)), .d (.sl false (more_.map eIntu8))] [] (fun v o new => v = .d (.bool r) ∧ o = [] ∧ new = []) := by
  refine acall_of_aw hτ func4 rfl (by simp) (by simp) ?_
  unfold m_laws_FnNumbers at h
  refine aw_seq ?_
  refine aw_region ?_
  refine awl_val hτ rfl rfl rfl ?_
  refine awl_nil ?_
  refine aw_seq ?_
  refine aw_seq ?_
  refine aw_region ?_
  refine awl_val hτ rfl rfl rfl ?_
  refine awl_val hτ rfl rfl rfl ?_
  refine bnd_elim h fun x52 hx52 h => ?_
  refine awl_callP hτ false [] rfl rfl rfl (enterOk func6 rfl rfl) rfl rfl (by simp) ⟨trivial, trivial, trivial⟩ (by repeat' first | exact trivial | refine ⟨?_, ?_⟩) (laws_b10Long_ok n code_ more_ hx52) ?_
  rintro r0 o0 n0 ⟨rfl, rfl, rfl⟩ -
  refine awl_nil ?_
  refine aw_cond rfl (fun hc53 => ?_) (fun hc53 => ?_)
  · have h := if_bt h hc53
    refine aw_seq ?_
    refine aw_region ?_
    refine awl_val hτ rfl rfl rfl ?_
    refine awl_nil ?_
    refine aw_weak (weak_ofP [] (l := [(4, .d (.bool true))]) (objs := []) rfl (by simp) rfl (by repeat' first | exact trivial | refine ⟨?_, ?_⟩) ⟨rfl, trivial, trivial⟩) ?_
    refine aw_ret ?_
    have hr := Option.some.inj h
    subst hr
    exact ret_objs (.inr rfl) [] (objs' := []) (new := []) rfl (by simp) (by simp) rfl (by repeat' first | exact trivial | refine ⟨?_, ?_⟩) rfl rfl (by repeat' first | exact trivial | refine ⟨?_, ?_⟩) (fun _ => ⟨by simp [V.flat, V.flatA, V.flatC, D.flat], flat_nil⟩) ⟨rfl, rfl, rfl⟩
  · have h := if_bf h hc53
    refine aw_skip ?_
    refine aw_seq ?_
    refine aw_region ?_
    refine awl_val hτ rfl rfl rfl ?_
    refine bnd_elim h fun x54 hx54 h => ?_
    refine awl_callP hτ false [] rfl rfl rfl (enterOk func20 rfl rfl) rfl rfl (by simp) ⟨trivial, trivial⟩ (by repeat' first | exact trivial | refine ⟨?_, ?_⟩) (spec_B10Number_ok n code_ hx54) ?_
    rintro r0 o0 n0 ⟨rfl, rfl, rfl⟩ -
    refine awl_val hτ rfl rfl rfl ?_
    refine awl_nil ?_
    refine aw_seq ?_
    refine aw_weak (weak_ofP [] (l := [(0, .d (.sl false (code_.map eIntu8))), (1, .d (.sl false (more_.map eIntu8))), (5, .d (.fl .f32 x54))]) (objs := []) rfl (by simp) rfl (by repeat' first | exact trivial | refine ⟨?_, ?_⟩) ⟨rfl, trivial, rfl, trivial, rfl, trivial, trivial⟩) ?_
    refine aw_region ?_
    refine awl_val hτ rfl rfl rfl ?_
    refine bnd_elim h fun x55 hx55 h => ?_
    refine awl_callP hτ false [] rfl rfl rfl (enterOk func20 rfl rfl) rfl rfl (by simp) ⟨trivial, trivial⟩ (by repeat' first | exact trivial | refine ⟨?_, ?_⟩) (spec_B10Number_ok n more_ hx55) ?_
    rintro r0 o0 n0 ⟨rfl, rfl, rfl⟩ -
    refine awl_val hτ rfl rfl rfl ?_
    refine awl_nil ?_
    refine aw_seq ?_
    refine aw_region ?_
    refine awl_val hτ rfl rfl rfl ?_
    refine bnd_elim h fun x56 hx56 h => ?_
    refine awl_callP hτ false [] rfl rfl rfl (enterOk func22 rfl rfl) rfl rfl (by simp) ⟨trivial, trivial⟩ (by repeat' first | exact trivial | refine ⟨?_, ?_⟩) (impl_BitsOf_ok n x54 hx56) ?_
    rintro r0 o0 n0 ⟨rfl, rfl, rfl⟩ -
    refine bnd_elim h fun x57 hx57 h => ?_
    refine awl_callP hτ false [] rfl rfl rfl (enterOk func21 rfl rfl) rfl rfl (by simp) ⟨trivial, trivial⟩ (by repeat' first | exact trivial | refine ⟨?_, ?_⟩) (impl_FromBits_ok n x56 hx57) ?_
    rintro r0 o0 n0 ⟨rfl, rfl, rfl⟩ -
    refine awl_val hτ rfl rfl rfl ?_
    refine awl_val hτ rfl rfl rfl ?_
    refine awl_val hτ rfl rfl rfl ?_
    refine awl_val hτ rfl rfl rfl ?_
    refine awl_val hτ rfl rfl rfl ?_
    refine awl_nil ?_
    refine aw_seq ?_
    refine aw_weak (weak_ofP [] (l := [(0, .d (.sl false (code_.map eIntu8))), (1, .d (.sl false (more_.map eIntu8))), (5, .d (.fl .f32 x54)), (6, .d (.fl .f32 x55)), (7, .d (.fl .f32 x57.1)), (8, .d (.bool x57.2))]) (objs := []) rfl (by simp) rfl (by repeat' first | exact trivial | refine ⟨?_, ?_⟩) ⟨rfl, trivial, rfl, trivial, rfl, trivial, rfl, trivial, rfl, trivial, rfl, trivial, trivial⟩) ?_
    refine aw_region ?_
    refine awl_val hτ rfl rfl rfl ?_
    refine bnd_elim h fun x58 hx58 h => ?_
    refine awl_callP hτ false [] rfl rfl rfl (enterOk func29 rfl rfl) rfl rfl (by simp) ⟨trivial, trivial⟩ (by repeat' first | exact trivial | refine ⟨?_, ?_⟩) (impl_FlushNumber_ok n x54 hx58) ?_
    rintro r0 o0 n0 ⟨rfl, rfl, rfl⟩ -
    refine awl_val hτ rfl rfl rfl ?_
    refine awl_nil ?_
    refine aw_seq ?_
    refine aw_region ?_
    refine awl_val hτ rfl rfl rfl ?_
    refine awl_val hτ rfl rfl rfl ?_
    refine bnd_elim h fun x59 hx59 h => ?_
    refine awl_callP hτ false [] rfl rfl rfl (enterOk func17 rfl rfl) rfl rfl (by simp) ⟨trivial, trivial, trivial, trivial⟩ (by repeat' first | exact trivial | refine ⟨?_, ?_⟩) (laws_b10At_ok n code_ (0 : Int) (12 : Int) hx59) ?_
    rintro r0 o0 n0 ⟨rfl, rfl, rfl⟩ -
    refine bnd_elim h fun x60 hx60 h => ?_
    refine awl_callP hτ false [] rfl rfl rfl (enterOk func30 rfl rfl) rfl rfl (by simp) ⟨trivial, trivial, trivial⟩ (by repeat' first | exact trivial | refine ⟨?_, ?_⟩) (spec_B10Numbers_ok n more_ x59 hx60) ?_
    rintro r0 o0 n0 ⟨rfl, rfl, rfl⟩ -
    refine awl_val hτ rfl rfl rfl ?_
    refine awl_nil ?_
    refine aw_seq ?_
    refine aw_weak (weak_ofP [0] (l := [(5, .d (.fl .f32 x54)), (6, .d (.fl .f32 x55)), (7, .d (.fl .f32 x57.1)), (8, .d (.bool x57.2)), (9, .d (.fl .f32 x58)), (10, .row 0 x60.length 0 x60.length)]) (objs := [.row 1 (x60.map eNatf32)]) rfl (by simp) rfl (by repeat' first | exact trivial | refine ⟨?_, ?_⟩) ⟨rfl, trivial, rfl, trivial, rfl, trivial, rfl, trivial, rfl, trivial, rfl, trivial, trivial⟩) ?_
    refine aw_region ?_
    refine awl_val hτ rfl rfl rfl ?_
    refine awl_nil ?_
    refine aw_hk1 (ι := Nat) (fun v67 => St.of [(5, .d (.fl .f32 x54)), (6, .d (.fl .f32 x55)), (7, .d (.fl .f32 x57.1)), (8, .d (.bool x57.2)), (9, .d (.fl .f32 x58)), (10, .row 0 x60.length 0 x60.length), (11, .d (.fl .f32 v67))] [.row 1 (x60.map eNatf32)] f4.ntmps 0) (fun v67 => m_laws_FnNumbers_j1 n x54 x55 x57 x58 x60 v67 = some r) ?_ (fun hk152 => ?_)
    · rintro v67 h
      replace h : m_laws_FnNumbers_j1 n x54 x55 x57 x58 x60 v67 = some r := h
      unfold m_laws_FnNumbers_j1 at h
      refine aw_seq ?_
      refine aw_region ?_
      refine awl_val hτ rfl rfl rfl ?_
      refine awl_weak (weak_ofP [0] (l := [(5, .d (.fl .f32 x54)), (6, .d (.fl .f32 x55)), (7, .d (.fl .f32 x57.1)), (8, .d (.bool x57.2)), (9, .d (.fl .f32 x58)), (10, .row 0 x60.length 0 x60.length), (11, .d (.fl .f32 v67)), (52, .row 0 x60.length 0 x60.length)]) (objs := [.row 1 (x60.map eNatf32)]) rfl (by simp) rfl (by repeat' first | exact trivial | refine ⟨?_, ?_⟩) ⟨rfl, trivial, rfl, trivial, rfl, trivial, rfl, trivial, rfl, trivial, rfl, trivial, rfl, trivial, rfl, trivial, trivial⟩) ?_
      refine bnd_elim h fun x68 hx68 h => ?_
      refine awl_callP hτ true [] rfl rfl rfl (enterOk func31 rfl rfl) (mapO_cons (exV_view (f := eNatf32) x60 rfl rfl rfl) mapO_nil) rfl (by simp) ⟨(exVP_view (f := eNatf32) x60 rfl rfl rfl), trivial⟩ (by repeat' first | exact trivial | refine ⟨?_, ?_⟩) (impl_SumNumbers_ok_fr n x60 hx68) ?_
      rintro r0 o0 n0 ⟨rfl, rfl, rfl⟩ -
      refine awl_val hτ rfl rfl rfl ?_
      refine awl_val hτ rfl rfl rfl ?_
      refine awl_val hτ rfl rfl rfl ?_
      refine awl_val hτ rfl rfl rfl ?_
      refine awl_val hτ rfl rfl rfl ?_
      refine awl_nil ?_
      refine aw_seq ?_
      refine aw_weak (weak_ofP [0] (l := [(5, .d (.fl .f32 x54)), (6, .d (.fl .f32 x55)), (7, .d (.fl .f32 x57.1)), (8, .d (.bool x57.2)), (9, .d (.fl .f32 x58)), (10, .row 0 x60.length 0 x60.length), (11, .d (.fl .f32 v67)), (13, .d (.fl .f32 x68.1)), (14, .d (.bool x68.2))]) (objs := [.row 1 (x60.map eNatf32)]) rfl (by simp) rfl (by repeat' first | exact trivial | refine ⟨?_, ?_⟩) ⟨rfl, trivial, rfl, trivial, rfl, trivial, rfl, trivial, rfl, trivial, rfl, trivial, rfl, trivial, rfl, trivial, rfl, trivial, trivial⟩) ?_
      refine aw_region ?_
      refine awl_val hτ rfl rfl rfl ?_
      refine awl_weak (weak_ofP [0] (l := [(5, .d (.fl .f32 x54)), (6, .d (.fl .f32 x55)), (7, .d (.fl .f32 x57.1)), (8, .d (.bool x57.2)), (9, .d (.fl .f32 x58)), (10, .row 0 x60.length 0 x60.length), (11, .d (.fl .f32 v67)), (13, .d (.fl .f32 x68.1)), (14, .d (.bool x68.2)), (57, .row 0 x60.length 0 x60.length)]) (objs := [.row 1 (x60.map eNatf32)]) rfl (by simp) rfl (by repeat' first | exact trivial | refine ⟨?_, ?_⟩) ⟨rfl, trivial, rfl, trivial, rfl, trivial, rfl, trivial, rfl, trivial, rfl, trivial, rfl, trivial, rfl, trivial, rfl, trivial, rfl, trivial, trivial⟩) ?_
      refine bnd_elim h fun x69 hx69 h => ?_
      refine awl_callP hτ true [] rfl rfl rfl (enterOk func32 rfl rfl) (mapO_cons (exV_view (f := eNatf32) x60 rfl rfl rfl) mapO_nil) rfl (by simp) ⟨(exVP_view (f := eNatf32) x60 rfl rfl rfl), trivial⟩ (by repeat' first | exact trivial | refine ⟨?_, ?_⟩) (impl_NumbersText_ok_fr n x60 hx69) ?_
      rintro r0 o0 n0 ⟨rfl, rfl, rfl⟩ -
      refine awl_val hτ rfl rfl rfl ?_
      refine awl_val hτ rfl rfl rfl ?_
      refine awl_val hτ rfl rfl rfl ?_
      refine awl_val hτ rfl rfl rfl ?_
      refine awl_val hτ rfl rfl rfl ?_
      refine awl_nil ?_
      refine aw_seq ?_
      refine aw_weak (weak_ofP [0] (l := [(5, .d (.fl .f32 x54)), (6, .d (.fl .f32 x55)), (7, .d (.fl .f32 x57.1)), (8, .d (.bool x57.2)), (9, .d (.fl .f32 x58)), (10, .row 0 x60.length 0 x60.length), (11, .d (.fl .f32 v67)), (13, .d (.fl .f32 x68.1)), (14, .d (.bool x68.2)), (15, .d (.str (bstr x69.1))), (16, .d (.bool x69.2))]) (objs := [.row 1 (x60.map eNatf32)]) rfl (by simp) rfl (by repeat' first | exact trivial | refine ⟨?_, ?_⟩) ⟨rfl, trivial, rfl, trivial, rfl, trivial, rfl, trivial, rfl, trivial, rfl, trivial, rfl, trivial, rfl, trivial, rfl, trivial, rfl, trivial, rfl, trivial, trivial⟩) ?_
      refine aw_region ?_
      refine awl_val hτ rfl rfl rfl ?_
      refine bnd_elim h fun x70 hx70 h => ?_
      refine awl_callP hτ false [] rfl rfl rfl (enterOk func33 rfl rfl) rfl rfl (by simp) ⟨trivial, trivial⟩ (by repeat' first | exact trivial | refine ⟨?_, ?_⟩) (impl_ReadNumbers_ok n x69.1 hx70) ?_
      rintro r0 o0 n0 ⟨rfl, rfl, rfl⟩ -
      refine awl_val hτ rfl rfl rfl ?_
      refine awl_val hτ rfl rfl rfl ?_
      refine awl_val hτ rfl rfl rfl ?_
      refine awl_val hτ rfl rfl rfl ?_
      refine awl_val hτ rfl rfl rfl ?_
      refine awl_nil ?_
      refine aw_hk1 (ι := Unit) (fun _ => St.of [(5, .d (.fl .f32 x54)), (6, .d (.fl .f32 x55)), (10, .row 0 x60.length 0 x60.length), (17, .row 1 x70.1.length 0 x70.1.length)] [.row 1 (x60.map eNatf32), .row 1 (x70.1.map eNatf32)] f4.ntmps 0) (fun _ => m_laws_FnNumbers_j2 n x54 x55 x60 x70 = some r) ?_ (fun hk121 => ?_)
      · rintro ⟨⟩ h
        replace h : m_laws_FnNumbers_j2 n x54 x55 x60 x70 = some r := h
        unfold m_laws_FnNumbers_j2 at h
        refine aw_hk1 (ι := Unit) (fun _ => St.of [(5, .d (.fl .f32 x54)), (6, .d (.fl .f32 x55))] [] f4.ntmps 0) (fun _ => m_laws_FnNumbers_j3 n x54 x55 = some r) ?_ (fun hk102 => ?_)
        · rintro ⟨⟩ h
          replace h : m_laws_FnNumbers_j3 n x54 x55 = some r := h
          unfold m_laws_FnNumbers_j3 at h
          refine aw_seq ?_
          refine aw_region ?_
          refine awl_val hτ rfl rfl rfl ?_
          refine awl_val hτ rfl rfl rfl ?_
          refine bnd_elim h fun x93 hx93 h => ?_
          refine awl_callP hτ false [] rfl rfl rfl (enterOk func35 rfl rfl) rfl rfl (by simp) ⟨trivial, trivial, trivial⟩ (by repeat' first | exact trivial | refine ⟨?_, ?_⟩) (impl_AngleTurns_ok n x55 x54 hx93) ?_
          rintro r0 o0 n0 ⟨rfl, rfl, rfl⟩ -
          refine awl_val hτ rfl rfl rfl ?_
          refine awl_val hτ rfl rfl rfl ?_
          refine awl_val hτ rfl rfl rfl ?_
          refine bnd_elim h fun x94 hx94 h => ?_
          refine awl_callP hτ false [] rfl rfl rfl (enterOk func36 rfl rfl) rfl rfl (by simp) ⟨trivial, trivial⟩ (by repeat' first | exact trivial | refine ⟨?_, ?_⟩) (impl_AngleOf_ok n (Cx.mk x54 x55) hx94) ?_
          rintro r0 o0 n0 ⟨rfl, rfl, rfl⟩ -
          refine bnd_elim h fun x95 hx95 h => ?_
          refine awl_callP hτ false [] rfl rfl rfl (enterOk func11 rfl rfl) rfl rfl (by simp) ⟨trivial, trivial, trivial⟩ (by repeat' first | exact trivial | refine ⟨?_, ?_⟩) (spec_SameNumber_ok n x93 x94 hx95) ?_
          rintro r0 o0 n0 ⟨rfl, rfl, rfl⟩ -
          refine awl_val hτ rfl rfl rfl ?_
          refine awl_split 135 rfl (fun hb96 => ?_) (fun hb96 => ?_)
          · have h := if_bt h hb96
            refine awl_val hτ rfl rfl rfl ?_
            refine bnd_elim h fun x97 hx97 h => ?_
            refine awl_val hτ (v := .d (.fl .f64 x97)) rfl rfl (conv_val hx97) ?_
            refine bnd_elim h fun x98 hx98 h => ?_
            refine awl_callP hτ false [] rfl rfl rfl (enterOk func37 rfl rfl) rfl rfl (by simp) ⟨trivial, trivial⟩ (by repeat' first | exact trivial | refine ⟨?_, ?_⟩) (impl_NarrowNumber_ok n x97 hx98) ?_
            rintro r0 o0 n0 ⟨rfl, rfl, rfl⟩ -
            refine awl_weak (weak_ofP [] (l := [(5, .d (.fl .f32 x54)), (135, .d (.bool true)), (138, .d (.fl .f32 x98))]) (objs := []) rfl (by simp) rfl (by repeat' first | exact trivial | refine ⟨?_, ?_⟩) ⟨rfl, trivial, rfl, trivial, rfl, trivial, trivial⟩) ?_
            refine awl_val hτ rfl rfl rfl ?_
            refine bnd_elim h fun x99 hx99 h => ?_
            refine awl_callP hτ false [] rfl rfl rfl (enterOk func11 rfl rfl) rfl rfl (by simp) ⟨trivial, trivial, trivial⟩ (by repeat' first | exact trivial | refine ⟨?_, ?_⟩) (spec_SameNumber_ok n x98 x54 hx99) ?_
            rintro r0 o0 n0 ⟨rfl, rfl, rfl⟩ -
            refine awl_val hτ rfl rfl rfl ?_
            refine awl_val hτ rfl rfl rfl ?_
            refine awl_split 142 rfl (fun hb100 => ?_) (fun hb100 => ?_)
            · have h := if_bt h hb100
              refine bnd_elim h fun x101 hx101 h => ?_
              refine awl_callP hτ false [] rfl rfl rfl (enterOk func38 rfl rfl) rfl rfl (by simp) ⟨trivial, trivial⟩ (by repeat' first | exact trivial | refine ⟨?_, ?_⟩) (impl_SineTurns_ok n (1048576000 : Nat) hx101) ?_
              rintro r0 o0 n0 ⟨rfl, rfl, rfl⟩ -
              refine awl_val hτ rfl rfl rfl ?_
              refine awl_val hτ rfl rfl rfl ?_
              refine awl_val hτ rfl rfl rfl ?_
              refine awl_nil ?_
              refine aw_weak (weak_ofP [] (l := [(4, .d (.bool (fcmp .eql .f32 x101 (1065353216 : Nat))))]) (objs := []) rfl (by simp) rfl (by repeat' first | exact trivial | refine ⟨?_, ?_⟩) ⟨rfl, trivial, trivial⟩) ?_
              refine aw_ret ?_
              have hr := Option.some.inj h
              subst hr
              exact ret_objs (.inr rfl) [] (objs' := []) (new := []) rfl (by simp) (by simp) rfl (by repeat' first | exact trivial | refine ⟨?_, ?_⟩) rfl rfl (by repeat' first | exact trivial | refine ⟨?_, ?_⟩) (fun _ => ⟨by simp [V.flat, V.flatA, V.flatC, D.flat], flat_nil⟩) ⟨rfl, rfl, rfl⟩
            · have h := if_bf h hb100
              refine awl_skip rfl rfl ?_
              refine awl_skip rfl rfl ?_
              refine awl_val hτ rfl rfl rfl ?_
              refine awl_val hτ rfl rfl rfl ?_
              refine awl_nil ?_
              refine aw_weak (weak_ofP [] (l := [(4, .d (.bool false))]) (objs := []) rfl (by simp) rfl (by repeat' first | exact trivial | refine ⟨?_, ?_⟩) ⟨rfl, trivial, trivial⟩) ?_
              refine aw_ret ?_
              have hr := Option.some.inj h
              subst hr
              exact ret_objs (.inr rfl) [] (objs' := []) (new := []) rfl (by simp) (by simp) rfl (by repeat' first | exact trivial | refine ⟨?_, ?_⟩) rfl rfl (by repeat' first | exact trivial | refine ⟨?_, ?_⟩) (fun _ => ⟨by simp [V.flat, V.flatA, V.flatC, D.flat], flat_nil⟩) ⟨rfl, rfl, rfl⟩
          · have h := if_bf h hb96
            refine awl_skip rfl rfl ?_
            refine awl_skip rfl rfl ?_
            refine awl_skip rfl rfl ?_
            refine awl_weak (weak_ofP [] (l := [(5, .d (.fl .f32 x54)), (135, .d (.bool false)), (138, .und)]) (objs := []) rfl (by simp) rfl (by repeat' first | exact trivial | refine ⟨?_, ?_⟩) ⟨rfl, trivial, rfl, trivial, rfl, trivial, trivial⟩) ?_
            refine awl_skip rfl rfl ?_
            refine awl_skip rfl rfl ?_
            refine awl_val hτ rfl rfl rfl ?_
            refine awl_val hτ rfl rfl rfl ?_
            refine awl_skip rfl rfl ?_
            refine awl_skip rfl rfl ?_
            refine awl_val hτ rfl rfl rfl ?_
            refine awl_val hτ rfl rfl rfl ?_
            refine awl_nil ?_
            refine aw_weak (weak_ofP [] (l := [(4, .d (.bool false))]) (objs := []) rfl (by simp) rfl (by repeat' first | exact trivial | refine ⟨?_, ?_⟩) ⟨rfl, trivial, trivial⟩) ?_
            refine aw_ret ?_
            have hr := Option.some.inj h
            subst hr
            exact ret_objs (.inr rfl) [] (objs' := []) (new := []) rfl (by simp) (by simp) rfl (by repeat' first | exact trivial | refine ⟨?_, ?_⟩) rfl rfl (by repeat' first | exact trivial | refine ⟨?_, ?_⟩) (fun _ => ⟨by simp [V.flat, V.flatA, V.flatC, D.flat], flat_nil⟩) ⟨rfl, rfl, rfl⟩
        · refine aw_seq ?_
          refine aw_seq ?_
          refine aw_region ?_
          refine awl_val hτ rfl rfl rfl ?_
          refine awl_need hτ rfl rfl rfl (len_map _) ?_
          refine awl_val hτ rfl rfl rfl ?_
          refine awl_nil ?_
          refine aw_block ?_
          refine aw_loop (ι := Nat × Int) (fun (m111, v106) => St.of [(5, .d (.fl .f32 x54)), (6, .d (.fl .f32 x55)), (10, .row 0 x60.length 0 x60.length), (17, .row 1 x70.1.length 0 x70.1.length), (112, .d (.int .i64 (x60.length : Int))), (113, .d (.int .i64 v106))] [.row 1 (x60.map eNatf32), .row 1 (x70.1.map eNatf32)] f4.ntmps 0) (fun (m111, v106) => m_laws_FnNumbers_l4 n x54 x55 x60 x70 m111 v106 = some r) (fun x => x.1) (n, (0 : Int)) h (weak_ofP [0, 1] (l := [(5, .d (.fl .f32 x54)), (6, .d (.fl .f32 x55)), (10, .row 0 x60.length 0 x60.length), (17, .row 1 x70.1.length 0 x70.1.length), (112, .d (.int .i64 (x60.length : Int))), (113, .d (.int .i64 (0 : Int)))]) (objs := [.row 1 (x60.map eNatf32), .row 1 (x70.1.map eNatf32)]) rfl (by simp) rfl (by repeat' first | exact trivial | refine ⟨?_, ?_⟩) ⟨rfl, trivial, rfl, trivial, rfl, trivial, rfl, trivial, rfl, trivial, rfl, trivial, trivial⟩) ?_
          rintro ⟨m111, v106⟩ h
          replace h : m_laws_FnNumbers_l4 n x54 x55 x60 x70 m111 v106 = some r := h
          rcases m111 with _ | m111
          · rw [m_laws_FnNumbers_l4] at h; cases h
          rw [m_laws_FnNumbers_l4] at h
          refine aw_seq ?_
          refine aw_region ?_
          refine awl_val hτ rfl rfl rfl ?_
          refine awl_nil ?_
          refine aw_seq ?_
          refine aw_cond rfl (fun hc113 => ?_) (fun hc113 => ?_)
          · have h := if_t h hc113
            refine aw_skip ?_
            refine aw_seq ?_
            refine aw_block ?_
            refine aw_seq ?_
            refine aw_region ?_
            refine awl_val hτ rfl rfl rfl ?_
            refine awl_val hτ rfl rfl rfl ?_
            refine awl_nil ?_
            refine aw_seq ?_
            refine any_start ?_
            refine any_val hτ [] 0 rfl rfl rfl rfl rfl ?_
            refine any_val hτ [] 1 rfl rfl rfl rfl rfl ?_
            refine bnd_elim h fun x117 hx117 h => ?_
            refine any_need hτ [1] 2 rfl rfl rfl rfl rfl (row_need hx117) ?_
            refine any_elem hτ [1] 3 rfl rfl rfl rfl rfl (len_map _) (row_get hx117) rfl ?_
            refine any_val hτ [] 4 rfl rfl rfl rfl rfl ?_
            refine any_val hτ [] 5 rfl rfl rfl rfl rfl ?_
            refine bnd_elim h fun x118 hx118 h => ?_
            refine any_need hτ [0] 6 rfl rfl rfl rfl rfl (row_need hx118) ?_
            refine any_elem hτ [0] 7 rfl rfl rfl rfl rfl (len_map _) (row_get hx118) rfl ?_
            refine bnd_elim h fun x119 hx119 h => ?_
            refine any_callP hτ false [] [0, 1] 8 rfl rfl rfl rfl (enterOk func11 rfl rfl) rfl rfl (by simp) ⟨trivial, trivial, trivial⟩ (by repeat' first | exact trivial | refine ⟨?_, ?_⟩) (spec_SameNumber_ok n x117 x118 hx119) ⟨rfl, rfl, trivial⟩ ?_
            refine any_val hτ [] 9 rfl rfl rfl rfl rfl ?_
            refine any_done mixed (by kernel_rfl) ?_
            refine aw_weak (weak_ofP [0, 1] (l := [(5, .d (.fl .f32 x54)), (6, .d (.fl .f32 x55)), (10, .row 0 x60.length 0 x60.length), (17, .row 1 x70.1.length 0 x70.1.length), (112, .d (.int .i64 (x60.length : Int))), (113, .d (.int .i64 v106)), (125, .d (.bool (!x119)))]) (objs := [.row 1 (x60.map eNatf32), .row 1 (x70.1.map eNatf32)]) rfl (by simp) rfl (by repeat' first | exact trivial | refine ⟨?_, ?_⟩) ⟨rfl, trivial, rfl, trivial, rfl, trivial, rfl, trivial, rfl, trivial, rfl, trivial, rfl, trivial, trivial⟩) ?_
            refine aw_cond rfl (fun hc120 => ?_) (fun hc120 => ?_)
            · have hc120 := not_t hc120
              have h := if_bf h hc120
              refine aw_seq ?_
              refine aw_region ?_
              refine awl_val hτ rfl rfl rfl ?_
              refine awl_nil ?_
              refine aw_weak (weak_ofP [] (l := [(4, .d (.bool false))]) (objs := []) rfl (by simp) rfl (by repeat' first | exact trivial | refine ⟨?_, ?_⟩) ⟨rfl, trivial, trivial⟩) ?_
              refine aw_ret ?_
              have hr := Option.some.inj h
              subst hr
              exact ret_objs (.inr rfl) [] (objs' := []) (new := []) rfl (by simp) (by simp) rfl (by repeat' first | exact trivial | refine ⟨?_, ?_⟩) rfl rfl (by repeat' first | exact trivial | refine ⟨?_, ?_⟩) (fun _ => ⟨by simp [V.flat, V.flatA, V.flatC, D.flat], flat_nil⟩) ⟨rfl, rfl, rfl⟩
            · have hc120 := not_f hc120
              have h := if_bt h hc120
              refine aw_skip ?_
              refine aw_region ?_
              refine awl_val hτ rfl rfl rfl ?_
              refine awl_val hτ rfl rfl rfl ?_
              refine awl_nil ?_
              exact ⟨(m111, (w64 (v106 + (1 : Int)))), h, Nat.lt_succ_self m111, (weak_ofP [0, 1] (l := [(5, .d (.fl .f32 x54)), (6, .d (.fl .f32 x55)), (10, .row 0 x60.length 0 x60.length), (17, .row 1 x70.1.length 0 x70.1.length), (112, .d (.int .i64 (x60.length : Int))), (113, .d (.int .i64 (w64 (v106 + (1 : Int)))))]) (objs := [.row 1 (x60.map eNatf32), .row 1 (x70.1.map eNatf32)]) rfl (by simp) rfl (by repeat' first | exact trivial | refine ⟨?_, ?_⟩) ⟨rfl, trivial, rfl, trivial, rfl, trivial, rfl, trivial, rfl, trivial, rfl, trivial, trivial⟩)⟩
          · have h := if_f h hc113
            refine aw_exit ?_
            refine aw_weak (weak_ofP [] (l := [(5, .d (.fl .f32 x54)), (6, .d (.fl .f32 x55))]) (objs := []) rfl (by simp) rfl (by repeat' first | exact trivial | refine ⟨?_, ?_⟩) ⟨rfl, trivial, rfl, trivial, trivial⟩) ?_
            exact hk102 () h
      · refine aw_seq ?_
        refine aw_hk1 (ι := Bool) (fun v136 => St.of [(5, .d (.fl .f32 x54)), (6, .d (.fl .f32 x55)), (10, .row 0 x60.length 0 x60.length), (17, .row 1 x70.1.length 0 x70.1.length), (110, .d (.bool v136))] [.row 1 (x60.map eNatf32), .row 1 (x70.1.map eNatf32)] f4.ntmps 0) (fun v136 => m_laws_FnNumbers_j5 n x54 x55 x60 x70 v136 = some r) ?_ (fun hk138 => ?_)
        · rintro v136 h
          replace h : m_laws_FnNumbers_j5 n x54 x55 x60 x70 v136 = some r := h
          unfold m_laws_FnNumbers_j5 at h
          refine aw_cond rfl (fun hc137 => ?_) (fun hc137 => ?_)
          · have h := if_bt h hc137
            refine aw_seq ?_
            refine aw_region ?_
            refine awl_val hτ rfl rfl rfl ?_
            refine awl_nil ?_
            refine aw_weak (weak_ofP [] (l := [(4, .d (.bool false))]) (objs := []) rfl (by simp) rfl (by repeat' first | exact trivial | refine ⟨?_, ?_⟩) ⟨rfl, trivial, trivial⟩) ?_
            refine aw_ret ?_
            have hr := Option.some.inj h
            subst hr
            exact ret_objs (.inr rfl) [] (objs' := []) (new := []) rfl (by simp) (by simp) rfl (by repeat' first | exact trivial | refine ⟨?_, ?_⟩) rfl rfl (by repeat' first | exact trivial | refine ⟨?_, ?_⟩) (fun _ => ⟨by simp [V.flat, V.flatA, V.flatC, D.flat], flat_nil⟩) ⟨rfl, rfl, rfl⟩
          · have h := if_bf h hc137
            refine aw_skip ?_
            refine aw_weak (weak_ofP [0, 1] (l := [(5, .d (.fl .f32 x54)), (6, .d (.fl .f32 x55)), (10, .row 0 x60.length 0 x60.length), (17, .row 1 x70.1.length 0 x70.1.length)]) (objs := [.row 1 (x60.map eNatf32), .row 1 (x70.1.map eNatf32)]) rfl (by simp) rfl (by repeat' first | exact trivial | refine ⟨?_, ?_⟩) ⟨rfl, trivial, rfl, trivial, rfl, trivial, rfl, trivial, trivial⟩) ?_
            exact hk121 () h
        · refine aw_seq ?_
          refine aw_weak (weak_ofP [0, 1] (l := [(5, .d (.fl .f32 x54)), (6, .d (.fl .f32 x55)), (7, .d (.fl .f32 x57.1)), (8, .d (.bool x57.2)), (9, .d (.fl .f32 x58)), (10, .row 0 x60.length 0 x60.length), (11, .d (.fl .f32 v67)), (13, .d (.fl .f32 x68.1)), (14, .d (.bool x68.2)), (16, .d (.bool x69.2)), (17, .row 1 x70.1.length 0 x70.1.length), (18, .d (.bool x70.2))]) (objs := [.row 1 (x60.map eNatf32), .row 1 (x70.1.map eNatf32)]) rfl (by simp) rfl (by repeat' first | exact trivial | refine ⟨?_, ?_⟩) ⟨rfl, trivial, rfl, trivial, rfl, trivial, rfl, trivial, rfl, trivial, rfl, trivial, rfl, trivial, rfl, trivial, rfl, trivial, rfl, trivial, rfl, trivial, rfl, trivial, trivial⟩) ?_
          refine aw_region ?_
          refine awl_val hτ rfl rfl rfl ?_
          refine awl_val hτ rfl rfl rfl ?_
          refine awl_val hτ rfl rfl rfl ?_
          refine awl_split 68 rfl (fun hb139 => ?_) (fun hb139 => ?_)
          · have hb139 := not_t hb139
            have h := if_bf h hb139
            refine awl_skip rfl rfl ?_
            refine awl_skip rfl rfl ?_
            refine awl_val hτ rfl rfl rfl ?_
            refine awl_val hτ rfl rfl rfl ?_
            refine awl_skip rfl rfl ?_
            refine awl_skip rfl rfl ?_
            refine awl_val hτ rfl rfl rfl ?_
            refine awl_val hτ rfl rfl rfl ?_
            refine awl_skip rfl rfl ?_
            refine awl_weak (weak_ofP [0, 1] (l := [(5, .d (.fl .f32 x54)), (6, .d (.fl .f32 x55)), (7, .d (.fl .f32 x57.1)), (9, .d (.fl .f32 x58)), (10, .row 0 x60.length 0 x60.length), (11, .d (.fl .f32 v67)), (13, .d (.fl .f32 x68.1)), (17, .row 1 x70.1.length 0 x70.1.length), (76, .d (.bool true)), (77, .und)]) (objs := [.row 1 (x60.map eNatf32), .row 1 (x70.1.map eNatf32)]) rfl (by simp) rfl (by repeat' first | exact trivial | refine ⟨?_, ?_⟩) ⟨rfl, trivial, rfl, trivial, rfl, trivial, rfl, trivial, rfl, trivial, rfl, trivial, rfl, trivial, rfl, trivial, rfl, trivial, rfl, trivial, trivial⟩) ?_
            refine awl_skip rfl rfl ?_
            refine awl_val hτ rfl rfl rfl ?_
            refine awl_val hτ rfl rfl rfl ?_
            refine awl_skip rfl rfl ?_
            refine awl_skip rfl rfl ?_
            refine awl_skip rfl rfl ?_
            refine awl_skip rfl rfl ?_
            refine awl_val hτ rfl rfl rfl ?_
            refine awl_val hτ rfl rfl rfl ?_
            refine awl_skip rfl rfl ?_
            refine awl_skip rfl rfl ?_
            refine awl_val hτ rfl rfl rfl ?_
            refine awl_weak (weak_ofP [0, 1] (l := [(5, .d (.fl .f32 x54)), (6, .d (.fl .f32 x55)), (9, .d (.fl .f32 x58)), (10, .row 0 x60.length 0 x60.length), (11, .d (.fl .f32 v67)), (13, .d (.fl .f32 x68.1)), (17, .row 1 x70.1.length 0 x70.1.length), (89, .d (.bool true))]) (objs := [.row 1 (x60.map eNatf32), .row 1 (x70.1.map eNatf32)]) rfl (by simp) rfl (by repeat' first | exact trivial | refine ⟨?_, ?_⟩) ⟨rfl, trivial, rfl, trivial, rfl, trivial, rfl, trivial, rfl, trivial, rfl, trivial, rfl, trivial, rfl, trivial, trivial⟩) ?_
            refine awl_val hτ rfl rfl rfl ?_
            refine awl_skip rfl rfl ?_
            refine awl_skip rfl rfl ?_
            refine awl_skip rfl rfl ?_
            refine awl_skip rfl rfl ?_
            refine awl_skip rfl rfl ?_
            refine awl_skip rfl rfl ?_
            refine awl_val hτ rfl rfl rfl ?_
            refine awl_val hτ rfl rfl rfl ?_
            refine awl_skip rfl rfl ?_
            refine awl_skip rfl rfl ?_
            refine awl_skip rfl rfl ?_
            refine awl_weak (weak_ofP [0, 1] (l := [(5, .d (.fl .f32 x54)), (6, .d (.fl .f32 x55)), (10, .row 0 x60.length 0 x60.length), (17, .row 1 x70.1.length 0 x70.1.length), (98, .d (.bool true)), (101, .und)]) (objs := [.row 1 (x60.map eNatf32), .row 1 (x70.1.map eNatf32)]) rfl (by simp) rfl (by repeat' first | exact trivial | refine ⟨?_, ?_⟩) ⟨rfl, trivial, rfl, trivial, rfl, trivial, rfl, trivial, rfl, trivial, rfl, trivial, trivial⟩) ?_
            refine awl_skip rfl rfl ?_
            refine awl_val hτ rfl rfl rfl ?_
            refine awl_val hτ rfl rfl rfl ?_
            refine awl_skip rfl rfl ?_
            refine awl_skip rfl rfl ?_
            refine awl_skip rfl rfl ?_
            refine awl_skip rfl rfl ?_
            refine awl_skip rfl rfl ?_
            refine awl_val hτ rfl rfl rfl ?_
            refine awl_nil ?_
            refine aw_weak (weak_ofP [0, 1] (l := [(5, .d (.fl .f32 x54)), (6, .d (.fl .f32 x55)), (10, .row 0 x60.length 0 x60.length), (17, .row 1 x70.1.length 0 x70.1.length), (110, .d (.bool true))]) (objs := [.row 1 (x60.map eNatf32), .row 1 (x70.1.map eNatf32)]) rfl (by simp) rfl (by repeat' first | exact trivial | refine ⟨?_, ?_⟩) ⟨rfl, trivial, rfl, trivial, rfl, trivial, rfl, trivial, rfl, trivial, trivial⟩) ?_
            exact hk138 true h
          · have hb139 := not_f hb139
            have h := if_bt h hb139
            refine awl_val hτ rfl rfl rfl ?_
            refine awl_val hτ rfl rfl rfl ?_
            refine awl_val hτ rfl rfl rfl ?_
            refine awl_val hτ rfl rfl rfl ?_
            refine awl_split 72 rfl (fun hb140 => ?_) (fun hb140 => ?_)
            · have hb140 := not_t hb140
              have h := if_bf h hb140
              refine awl_skip rfl rfl ?_
              refine awl_skip rfl rfl ?_
              refine awl_val hτ rfl rfl rfl ?_
              refine awl_val hτ rfl rfl rfl ?_
              refine awl_skip rfl rfl ?_
              refine awl_weak (weak_ofP [0, 1] (l := [(5, .d (.fl .f32 x54)), (6, .d (.fl .f32 x55)), (7, .d (.fl .f32 x57.1)), (9, .d (.fl .f32 x58)), (10, .row 0 x60.length 0 x60.length), (11, .d (.fl .f32 v67)), (13, .d (.fl .f32 x68.1)), (17, .row 1 x70.1.length 0 x70.1.length), (76, .d (.bool true)), (77, .und)]) (objs := [.row 1 (x60.map eNatf32), .row 1 (x70.1.map eNatf32)]) rfl (by simp) rfl (by repeat' first | exact trivial | refine ⟨?_, ?_⟩) ⟨rfl, trivial, rfl, trivial, rfl, trivial, rfl, trivial, rfl, trivial, rfl, trivial, rfl, trivial, rfl, trivial, rfl, trivial, rfl, trivial, trivial⟩) ?_
              refine awl_skip rfl rfl ?_
              refine awl_val hτ rfl rfl rfl ?_
              refine awl_val hτ rfl rfl rfl ?_
              refine awl_skip rfl rfl ?_
              refine awl_skip rfl rfl ?_
              refine awl_skip rfl rfl ?_
              refine awl_skip rfl rfl ?_
              refine awl_val hτ rfl rfl rfl ?_
              refine awl_val hτ rfl rfl rfl ?_
              refine awl_skip rfl rfl ?_
              refine awl_skip rfl rfl ?_
              refine awl_val hτ rfl rfl rfl ?_
              refine awl_weak (weak_ofP [0, 1] (l := [(5, .d (.fl .f32 x54)), (6, .d (.fl .f32 x55)), (9, .d (.fl .f32 x58)), (10, .row 0 x60.length 0 x60.length), (11, .d (.fl .f32 v67)), (13, .d (.fl .f32 x68.1)), (17, .row 1 x70.1.length 0 x70.1.length), (89, .d (.bool true))]) (objs := [.row 1 (x60.map eNatf32), .row 1 (x70.1.map eNatf32)]) rfl (by simp) rfl (by repeat' first | exact trivial | refine ⟨?_, ?_⟩) ⟨rfl, trivial, rfl, trivial, rfl, trivial, rfl, trivial, rfl, trivial, rfl, trivial, rfl, trivial, rfl, trivial, trivial⟩) ?_
              refine awl_val hτ rfl rfl rfl ?_
              refine awl_skip rfl rfl ?_
              refine awl_skip rfl rfl ?_
              refine awl_skip rfl rfl ?_
              refine awl_skip rfl rfl ?_
              refine awl_skip rfl rfl ?_
              refine awl_skip rfl rfl ?_
              refine awl_val hτ rfl rfl rfl ?_
              refine awl_val hτ rfl rfl rfl ?_
              refine awl_skip rfl rfl ?_
              refine awl_skip rfl rfl ?_
              refine awl_skip rfl rfl ?_
              refine awl_weak (weak_ofP [0, 1] (l := [(5, .d (.fl .f32 x54)), (6, .d (.fl .f32 x55)), (10, .row 0 x60.length 0 x60.length), (17, .row 1 x70.1.length 0 x70.1.length), (98, .d (.bool true)), (101, .und)]) (objs := [.row 1 (x60.map eNatf32), .row 1 (x70.1.map eNatf32)]) rfl (by simp) rfl (by repeat' first | exact trivial | refine ⟨?_, ?_⟩) ⟨rfl, trivial, rfl, trivial, rfl, trivial, rfl, trivial, rfl, trivial, rfl, trivial, trivial⟩) ?_
              refine awl_skip rfl rfl ?_
              refine awl_val hτ rfl rfl rfl ?_
              refine awl_val hτ rfl rfl rfl ?_
              refine awl_skip rfl rfl ?_
              refine awl_skip rfl rfl ?_
              refine awl_skip rfl rfl ?_
              refine awl_skip rfl rfl ?_
              refine awl_skip rfl rfl ?_
              refine awl_val hτ rfl rfl rfl ?_
              refine awl_nil ?_
              refine aw_weak (weak_ofP [0, 1] (l := [(5, .d (.fl .f32 x54)), (6, .d (.fl .f32 x55)), (10, .row 0 x60.length 0 x60.length), (17, .row 1 x70.1.length 0 x70.1.length), (110, .d (.bool true))]) (objs := [.row 1 (x60.map eNatf32), .row 1 (x70.1.map eNatf32)]) rfl (by simp) rfl (by repeat' first | exact trivial | refine ⟨?_, ?_⟩) ⟨rfl, trivial, rfl, trivial, rfl, trivial, rfl, trivial, rfl, trivial, trivial⟩) ?_
              exact hk138 true h
            · have hb140 := not_f hb140
              have h := if_bt h hb140
              refine awl_val hτ rfl rfl rfl ?_
              refine awl_val hτ rfl rfl rfl ?_
              refine awl_val hτ rfl rfl rfl ?_
              refine awl_val hτ rfl rfl rfl ?_
              refine awl_split 76 rfl (fun hb141 => ?_) (fun hb141 => ?_)
              · have hb141 := not_t hb141
                have h := if_bf h hb141
                refine awl_skip rfl rfl ?_
                refine awl_weak (weak_ofP [0, 1] (l := [(5, .d (.fl .f32 x54)), (6, .d (.fl .f32 x55)), (7, .d (.fl .f32 x57.1)), (9, .d (.fl .f32 x58)), (10, .row 0 x60.length 0 x60.length), (11, .d (.fl .f32 v67)), (13, .d (.fl .f32 x68.1)), (17, .row 1 x70.1.length 0 x70.1.length), (76, .d (.bool true)), (77, .und)]) (objs := [.row 1 (x60.map eNatf32), .row 1 (x70.1.map eNatf32)]) rfl (by simp) rfl (by repeat' first | exact trivial | refine ⟨?_, ?_⟩) ⟨rfl, trivial, rfl, trivial, rfl, trivial, rfl, trivial, rfl, trivial, rfl, trivial, rfl, trivial, rfl, trivial, rfl, trivial, rfl, trivial, trivial⟩) ?_
                refine awl_skip rfl rfl ?_
                refine awl_val hτ rfl rfl rfl ?_
                refine awl_val hτ rfl rfl rfl ?_
                refine awl_skip rfl rfl ?_
                refine awl_skip rfl rfl ?_
                refine awl_skip rfl rfl ?_
                refine awl_skip rfl rfl ?_
                refine awl_val hτ rfl rfl rfl ?_
                refine awl_val hτ rfl rfl rfl ?_
                refine awl_skip rfl rfl ?_
                refine awl_skip rfl rfl ?_
                refine awl_val hτ rfl rfl rfl ?_
                refine awl_weak (weak_ofP [0, 1] (l := [(5, .d (.fl .f32 x54)), (6, .d (.fl .f32 x55)), (9, .d (.fl .f32 x58)), (10, .row 0 x60.length 0 x60.length), (11, .d (.fl .f32 v67)), (13, .d (.fl .f32 x68.1)), (17, .row 1 x70.1.length 0 x70.1.length), (89, .d (.bool true))]) (objs := [.row 1 (x60.map eNatf32), .row 1 (x70.1.map eNatf32)]) rfl (by simp) rfl (by repeat' first | exact trivial | refine ⟨?_, ?_⟩) ⟨rfl, trivial, rfl, trivial, rfl, trivial, rfl, trivial, rfl, trivial, rfl, trivial, rfl, trivial, rfl, trivial, trivial⟩) ?_
                refine awl_val hτ rfl rfl rfl ?_
                refine awl_skip rfl rfl ?_
                refine awl_skip rfl rfl ?_
                refine awl_skip rfl rfl ?_
                refine awl_skip rfl rfl ?_
                refine awl_skip rfl rfl ?_
                refine awl_skip rfl rfl ?_
                refine awl_val hτ rfl rfl rfl ?_
                refine awl_val hτ rfl rfl rfl ?_
                refine awl_skip rfl rfl ?_
                refine awl_skip rfl rfl ?_
                refine awl_skip rfl rfl ?_
                refine awl_weak (weak_ofP [0, 1] (l := [(5, .d (.fl .f32 x54)), (6, .d (.fl .f32 x55)), (10, .row 0 x60.length 0 x60.length), (17, .row 1 x70.1.length 0 x70.1.length), (98, .d (.bool true)), (101, .und)]) (objs := [.row 1 (x60.map eNatf32), .row 1 (x70.1.map eNatf32)]) rfl (by simp) rfl (by repeat' first | exact trivial | refine ⟨?_, ?_⟩) ⟨rfl, trivial, rfl, trivial, rfl, trivial, rfl, trivial, rfl, trivial, rfl, trivial, trivial⟩) ?_
                refine awl_skip rfl rfl ?_
                refine awl_val hτ rfl rfl rfl ?_
                refine awl_val hτ rfl rfl rfl ?_
                refine awl_skip rfl rfl ?_
                refine awl_skip rfl rfl ?_
                refine awl_skip rfl rfl ?_
                refine awl_skip rfl rfl ?_
                refine awl_skip rfl rfl ?_
                refine awl_val hτ rfl rfl rfl ?_
                refine awl_nil ?_
                refine aw_weak (weak_ofP [0, 1] (l := [(5, .d (.fl .f32 x54)), (6, .d (.fl .f32 x55)), (10, .row 0 x60.length 0 x60.length), (17, .row 1 x70.1.length 0 x70.1.length), (110, .d (.bool true))]) (objs := [.row 1 (x60.map eNatf32), .row 1 (x70.1.map eNatf32)]) rfl (by simp) rfl (by repeat' first | exact trivial | refine ⟨?_, ?_⟩) ⟨rfl, trivial, rfl, trivial, rfl, trivial, rfl, trivial, rfl, trivial, trivial⟩) ?_
                exact hk138 true h
              · have hb141 := not_f hb141
                have h := if_bt h hb141
                refine awl_val hτ rfl rfl rfl ?_
                refine awl_weak (weak_ofP [0, 1] (l := [(5, .d (.fl .f32 x54)), (6, .d (.fl .f32 x55)), (7, .d (.fl .f32 x57.1)), (9, .d (.fl .f32 x58)), (10, .row 0 x60.length 0 x60.length), (11, .d (.fl .f32 v67)), (13, .d (.fl .f32 x68.1)), (17, .row 1 x70.1.length 0 x70.1.length), (76, .d (.bool false)), (77, .d (.bool x70.2))]) (objs := [.row 1 (x60.map eNatf32), .row 1 (x70.1.map eNatf32)]) rfl (by simp) rfl (by repeat' first | exact trivial | refine ⟨?_, ?_⟩) ⟨rfl, trivial, rfl, trivial, rfl, trivial, rfl, trivial, rfl, trivial, rfl, trivial, rfl, trivial, rfl, trivial, rfl, trivial, rfl, trivial, trivial⟩) ?_
                refine awl_val hτ rfl rfl rfl ?_
                refine awl_val hτ rfl rfl rfl ?_
                refine awl_val hτ rfl rfl rfl ?_
                refine awl_split 80 rfl (fun hb142 => ?_) (fun hb142 => ?_)
                · have hb142 := not_t hb142
                  have h := if_bf h hb142
                  refine awl_skip rfl rfl ?_
                  refine awl_skip rfl rfl ?_
                  refine awl_skip rfl rfl ?_
                  refine awl_skip rfl rfl ?_
                  refine awl_val hτ rfl rfl rfl ?_
                  refine awl_val hτ rfl rfl rfl ?_
                  refine awl_skip rfl rfl ?_
                  refine awl_skip rfl rfl ?_
                  refine awl_val hτ rfl rfl rfl ?_
                  refine awl_weak (weak_ofP [0, 1] (l := [(5, .d (.fl .f32 x54)), (6, .d (.fl .f32 x55)), (9, .d (.fl .f32 x58)), (10, .row 0 x60.length 0 x60.length), (11, .d (.fl .f32 v67)), (13, .d (.fl .f32 x68.1)), (17, .row 1 x70.1.length 0 x70.1.length), (89, .d (.bool true))]) (objs := [.row 1 (x60.map eNatf32), .row 1 (x70.1.map eNatf32)]) rfl (by simp) rfl (by repeat' first | exact trivial | refine ⟨?_, ?_⟩) ⟨rfl, trivial, rfl, trivial, rfl, trivial, rfl, trivial, rfl, trivial, rfl, trivial, rfl, trivial, rfl, trivial, trivial⟩) ?_
                  refine awl_val hτ rfl rfl rfl ?_
                  refine awl_skip rfl rfl ?_
                  refine awl_skip rfl rfl ?_
                  refine awl_skip rfl rfl ?_
                  refine awl_skip rfl rfl ?_
                  refine awl_skip rfl rfl ?_
                  refine awl_skip rfl rfl ?_
                  refine awl_val hτ rfl rfl rfl ?_
                  refine awl_val hτ rfl rfl rfl ?_
                  refine awl_skip rfl rfl ?_
                  refine awl_skip rfl rfl ?_
                  refine awl_skip rfl rfl ?_
                  refine awl_weak (weak_ofP [0, 1] (l := [(5, .d (.fl .f32 x54)), (6, .d (.fl .f32 x55)), (10, .row 0 x60.length 0 x60.length), (17, .row 1 x70.1.length 0 x70.1.length), (98, .d (.bool true)), (101, .und)]) (objs := [.row 1 (x60.map eNatf32), .row 1 (x70.1.map eNatf32)]) rfl (by simp) rfl (by repeat' first | exact trivial | refine ⟨?_, ?_⟩) ⟨rfl, trivial, rfl, trivial, rfl, trivial, rfl, trivial, rfl, trivial, rfl, trivial, trivial⟩) ?_
                  refine awl_skip rfl rfl ?_
                  refine awl_val hτ rfl rfl rfl ?_
                  refine awl_val hτ rfl rfl rfl ?_
                  refine awl_skip rfl rfl ?_
                  refine awl_skip rfl rfl ?_
                  refine awl_skip rfl rfl ?_
                  refine awl_skip rfl rfl ?_
                  refine awl_skip rfl rfl ?_
                  refine awl_val hτ rfl rfl rfl ?_
                  refine awl_nil ?_
                  refine aw_weak (weak_ofP [0, 1] (l := [(5, .d (.fl .f32 x54)), (6, .d (.fl .f32 x55)), (10, .row 0 x60.length 0 x60.length), (17, .row 1 x70.1.length 0 x70.1.length), (110, .d (.bool true))]) (objs := [.row 1 (x60.map eNatf32), .row 1 (x70.1.map eNatf32)]) rfl (by simp) rfl (by repeat' first | exact trivial | refine ⟨?_, ?_⟩) ⟨rfl, trivial, rfl, trivial, rfl, trivial, rfl, trivial, rfl, trivial, trivial⟩) ?_
                  exact hk138 true h
                · have hb142 := not_f hb142
                  have h := if_bt h hb142
                  refine awl_val hτ rfl rfl rfl ?_
                  refine awl_val hτ rfl rfl rfl ?_
                  refine bnd_elim h fun x143 hx143 h => ?_
                  refine awl_callP hτ false [] rfl rfl rfl (enterOk func11 rfl rfl) rfl rfl (by simp) ⟨trivial, trivial, trivial⟩ (by repeat' first | exact trivial | refine ⟨?_, ?_⟩) (spec_SameNumber_ok n x57.1 x54 hx143) ?_
                  rintro r0 o0 n0 ⟨rfl, rfl, rfl⟩ -
                  refine awl_val hτ rfl rfl rfl ?_
                  refine awl_val hτ rfl rfl rfl ?_
                  refine awl_val hτ rfl rfl rfl ?_
                  refine awl_split 86 rfl (fun hb144 => ?_) (fun hb144 => ?_)
                  · have hb144 := not_t hb144
                    have h := if_bf h hb144
                    refine awl_skip rfl rfl ?_
                    refine awl_skip rfl rfl ?_
                    refine awl_val hτ rfl rfl rfl ?_
                    refine awl_weak (weak_ofP [0, 1] (l := [(5, .d (.fl .f32 x54)), (6, .d (.fl .f32 x55)), (9, .d (.fl .f32 x58)), (10, .row 0 x60.length 0 x60.length), (11, .d (.fl .f32 v67)), (13, .d (.fl .f32 x68.1)), (17, .row 1 x70.1.length 0 x70.1.length), (89, .d (.bool true))]) (objs := [.row 1 (x60.map eNatf32), .row 1 (x70.1.map eNatf32)]) rfl (by simp) rfl (by repeat' first | exact trivial | refine ⟨?_, ?_⟩) ⟨rfl, trivial, rfl, trivial, rfl, trivial, rfl, trivial, rfl, trivial, rfl, trivial, rfl, trivial, rfl, trivial, trivial⟩) ?_
                    refine awl_val hτ rfl rfl rfl ?_
                    refine awl_skip rfl rfl ?_
                    refine awl_skip rfl rfl ?_
                    refine awl_skip rfl rfl ?_
                    refine awl_skip rfl rfl ?_
                    refine awl_skip rfl rfl ?_
                    refine awl_skip rfl rfl ?_
                    refine awl_val hτ rfl rfl rfl ?_
                    refine awl_val hτ rfl rfl rfl ?_
                    refine awl_skip rfl rfl ?_
                    refine awl_skip rfl rfl ?_
                    refine awl_skip rfl rfl ?_
                    refine awl_weak (weak_ofP [0, 1] (l := [(5, .d (.fl .f32 x54)), (6, .d (.fl .f32 x55)), (10, .row 0 x60.length 0 x60.length), (17, .row 1 x70.1.length 0 x70.1.length), (98, .d (.bool true)), (101, .und)]) (objs := [.row 1 (x60.map eNatf32), .row 1 (x70.1.map eNatf32)]) rfl (by simp) rfl (by repeat' first | exact trivial | refine ⟨?_, ?_⟩) ⟨rfl, trivial, rfl, trivial, rfl, trivial, rfl, trivial, rfl, trivial, rfl, trivial, trivial⟩) ?_
                    refine awl_skip rfl rfl ?_
                    refine awl_val hτ rfl rfl rfl ?_
                    refine awl_val hτ rfl rfl rfl ?_
                    refine awl_skip rfl rfl ?_
                    refine awl_skip rfl rfl ?_
                    refine awl_skip rfl rfl ?_
                    refine awl_skip rfl rfl ?_
                    refine awl_skip rfl rfl ?_
                    refine awl_val hτ rfl rfl rfl ?_
                    refine awl_nil ?_
                    refine aw_weak (weak_ofP [0, 1] (l := [(5, .d (.fl .f32 x54)), (6, .d (.fl .f32 x55)), (10, .row 0 x60.length 0 x60.length), (17, .row 1 x70.1.length 0 x70.1.length), (110, .d (.bool true))]) (objs := [.row 1 (x60.map eNatf32), .row 1 (x70.1.map eNatf32)]) rfl (by simp) rfl (by repeat' first | exact trivial | refine ⟨?_, ?_⟩) ⟨rfl, trivial, rfl, trivial, rfl, trivial, rfl, trivial, rfl, trivial, trivial⟩) ?_
                    exact hk138 true h
                  · have hb144 := not_f hb144
                    have h := if_bt h hb144
                    refine awl_val hτ rfl rfl rfl ?_
                    refine bnd_elim h fun x145 hx145 h => ?_
                    refine awl_callP hτ false [] rfl rfl rfl (enterOk func34 rfl rfl) rfl rfl (by simp) ⟨trivial, trivial⟩ (by repeat' first | exact trivial | refine ⟨?_, ?_⟩) (impl_IsSubnormal_ok n x58 hx145) ?_
                    rintro r0 o0 n0 ⟨rfl, rfl, rfl⟩ -
                    refine awl_val hτ rfl rfl rfl ?_
                    refine awl_weak (weak_ofP [0, 1] (l := [(5, .d (.fl .f32 x54)), (6, .d (.fl .f32 x55)), (9, .d (.fl .f32 x58)), (10, .row 0 x60.length 0 x60.length), (11, .d (.fl .f32 v67)), (13, .d (.fl .f32 x68.1)), (17, .row 1 x70.1.length 0 x70.1.length), (89, .d (.bool x145))]) (objs := [.row 1 (x60.map eNatf32), .row 1 (x70.1.map eNatf32)]) rfl (by simp) rfl (by repeat' first | exact trivial | refine ⟨?_, ?_⟩) ⟨rfl, trivial, rfl, trivial, rfl, trivial, rfl, trivial, rfl, trivial, rfl, trivial, rfl, trivial, rfl, trivial, trivial⟩) ?_
                    refine awl_val hτ rfl rfl rfl ?_
                    refine awl_split 90 rfl (fun hb146 => ?_) (fun hb146 => ?_)
                    · have h := if_bt h hb146
                      refine awl_skip rfl rfl ?_
                      refine awl_skip rfl rfl ?_
                      refine awl_skip rfl rfl ?_
                      refine awl_skip rfl rfl ?_
                      refine awl_skip rfl rfl ?_
                      refine awl_skip rfl rfl ?_
                      refine awl_val hτ rfl rfl rfl ?_
                      refine awl_val hτ rfl rfl rfl ?_
                      refine awl_skip rfl rfl ?_
                      refine awl_skip rfl rfl ?_
                      refine awl_skip rfl rfl ?_
                      refine awl_weak (weak_ofP [0, 1] (l := [(5, .d (.fl .f32 x54)), (6, .d (.fl .f32 x55)), (10, .row 0 x60.length 0 x60.length), (17, .row 1 x70.1.length 0 x70.1.length), (98, .d (.bool true)), (101, .und)]) (objs := [.row 1 (x60.map eNatf32), .row 1 (x70.1.map eNatf32)]) rfl (by simp) rfl (by repeat' first | exact trivial | refine ⟨?_, ?_⟩) ⟨rfl, trivial, rfl, trivial, rfl, trivial, rfl, trivial, rfl, trivial, rfl, trivial, trivial⟩) ?_
                      refine awl_skip rfl rfl ?_
                      refine awl_val hτ rfl rfl rfl ?_
                      refine awl_val hτ rfl rfl rfl ?_
                      refine awl_skip rfl rfl ?_
                      refine awl_skip rfl rfl ?_
                      refine awl_skip rfl rfl ?_
                      refine awl_skip rfl rfl ?_
                      refine awl_skip rfl rfl ?_
                      refine awl_val hτ rfl rfl rfl ?_
                      refine awl_nil ?_
                      refine aw_weak (weak_ofP [0, 1] (l := [(5, .d (.fl .f32 x54)), (6, .d (.fl .f32 x55)), (10, .row 0 x60.length 0 x60.length), (17, .row 1 x70.1.length 0 x70.1.length), (110, .d (.bool true))]) (objs := [.row 1 (x60.map eNatf32), .row 1 (x70.1.map eNatf32)]) rfl (by simp) rfl (by repeat' first | exact trivial | refine ⟨?_, ?_⟩) ⟨rfl, trivial, rfl, trivial, rfl, trivial, rfl, trivial, rfl, trivial, trivial⟩) ?_
                      exact hk138 true h
                    · have h := if_bf h hb146
                      refine awl_val hτ rfl rfl rfl ?_
                      refine bnd_elim h fun x147 hx147 h => ?_
                      refine awl_callP hτ false [] rfl rfl rfl (enterOk func34 rfl rfl) rfl rfl (by simp) ⟨trivial, trivial⟩ (by repeat' first | exact trivial | refine ⟨?_, ?_⟩) (impl_IsSubnormal_ok n x54 hx147) ?_
                      rintro r0 o0 n0 ⟨rfl, rfl, rfl⟩ -
                      refine awl_val hτ rfl rfl rfl ?_
                      refine awl_val hτ rfl rfl rfl ?_
                      refine bnd_elim h fun x148 hx148 h => ?_
                      refine awl_callP hτ false [] rfl rfl rfl (enterOk func11 rfl rfl) rfl rfl (by simp) ⟨trivial, trivial, trivial⟩ (by repeat' first | exact trivial | refine ⟨?_, ?_⟩) (spec_SameNumber_ok n x54 x58 hx148) ?_
                      rintro r0 o0 n0 ⟨rfl, rfl, rfl⟩ -
                      refine awl_val hτ rfl rfl rfl ?_
                      refine awl_val hτ rfl rfl rfl ?_
                      refine awl_val hτ rfl rfl rfl ?_
                      refine awl_split 98 rfl (fun hb149 => ?_) (fun hb149 => ?_)
                      · have h := if_bt h hb149
                        refine awl_skip rfl rfl ?_
                        refine awl_skip rfl rfl ?_
                        refine awl_skip rfl rfl ?_
                        refine awl_weak (weak_ofP [0, 1] (l := [(5, .d (.fl .f32 x54)), (6, .d (.fl .f32 x55)), (10, .row 0 x60.length 0 x60.length), (17, .row 1 x70.1.length 0 x70.1.length), (98, .d (.bool true)), (101, .und)]) (objs := [.row 1 (x60.map eNatf32), .row 1 (x70.1.map eNatf32)]) rfl (by simp) rfl (by repeat' first | exact trivial | refine ⟨?_, ?_⟩) ⟨rfl, trivial, rfl, trivial, rfl, trivial, rfl, trivial, rfl, trivial, rfl, trivial, trivial⟩) ?_
                        refine awl_skip rfl rfl ?_
                        refine awl_val hτ rfl rfl rfl ?_
                        refine awl_val hτ rfl rfl rfl ?_
                        refine awl_skip rfl rfl ?_
                        refine awl_skip rfl rfl ?_
                        refine awl_skip rfl rfl ?_
                        refine awl_skip rfl rfl ?_
                        refine awl_skip rfl rfl ?_
                        refine awl_val hτ rfl rfl rfl ?_
                        refine awl_nil ?_
                        refine aw_weak (weak_ofP [0, 1] (l := [(5, .d (.fl .f32 x54)), (6, .d (.fl .f32 x55)), (10, .row 0 x60.length 0 x60.length), (17, .row 1 x70.1.length 0 x70.1.length), (110, .d (.bool true))]) (objs := [.row 1 (x60.map eNatf32), .row 1 (x70.1.map eNatf32)]) rfl (by simp) rfl (by repeat' first | exact trivial | refine ⟨?_, ?_⟩) ⟨rfl, trivial, rfl, trivial, rfl, trivial, rfl, trivial, rfl, trivial, trivial⟩) ?_
                        exact hk138 true h
                      · have h := if_bf h hb149
                        refine awl_val hτ rfl rfl rfl ?_
                        refine awl_val hτ rfl rfl rfl ?_
                        refine bnd_elim h fun x150 hx150 h => ?_
                        refine awl_callP hτ false [] rfl rfl rfl (enterOk func11 rfl rfl) rfl rfl (by simp) ⟨trivial, trivial, trivial⟩ (by repeat' first | exact trivial | refine ⟨?_, ?_⟩) (spec_SameNumber_ok n x68.1 v67 hx150) ?_
                        rintro r0 o0 n0 ⟨rfl, rfl, rfl⟩ -
                        refine awl_weak (weak_ofP [0, 1] (l := [(5, .d (.fl .f32 x54)), (6, .d (.fl .f32 x55)), (10, .row 0 x60.length 0 x60.length), (17, .row 1 x70.1.length 0 x70.1.length), (98, .d (.bool false)), (101, .d (.bool x150))]) (objs := [.row 1 (x60.map eNatf32), .row 1 (x70.1.map eNatf32)]) rfl (by simp) rfl (by repeat' first | exact trivial | refine ⟨?_, ?_⟩) ⟨rfl, trivial, rfl, trivial, rfl, trivial, rfl, trivial, rfl, trivial, rfl, trivial, trivial⟩) ?_
                        refine awl_val hτ rfl rfl rfl ?_
                        refine awl_val hτ rfl rfl rfl ?_
                        refine awl_val hτ rfl rfl rfl ?_
                        refine awl_split 104 rfl (fun hb151 => ?_) (fun hb151 => ?_)
                        · have hb151 := not_t hb151
                          have h := if_bf h hb151
                          refine awl_skip rfl rfl ?_
                          refine awl_skip rfl rfl ?_
                          refine awl_skip rfl rfl ?_
                          refine awl_skip rfl rfl ?_
                          refine awl_skip rfl rfl ?_
                          refine awl_val hτ rfl rfl rfl ?_
                          refine awl_nil ?_
                          refine aw_weak (weak_ofP [0, 1] (l := [(5, .d (.fl .f32 x54)), (6, .d (.fl .f32 x55)), (10, .row 0 x60.length 0 x60.length), (17, .row 1 x70.1.length 0 x70.1.length), (110, .d (.bool true))]) (objs := [.row 1 (x60.map eNatf32), .row 1 (x70.1.map eNatf32)]) rfl (by simp) rfl (by repeat' first | exact trivial | refine ⟨?_, ?_⟩) ⟨rfl, trivial, rfl, trivial, rfl, trivial, rfl, trivial, rfl, trivial, trivial⟩) ?_
                          exact hk138 true h
                        · have hb151 := not_f hb151
                          have h := if_bt h hb151
                          refine awl_val hτ rfl rfl rfl ?_
                          refine awl_need hτ rfl rfl rfl (len_map _) ?_
                          refine awl_val hτ rfl rfl rfl ?_
                          refine awl_need hτ rfl rfl rfl (len_map _) ?_
                          refine awl_val hτ (v := .d (.bool (!(decide ((x70.1.length : Int) = (x60.length : Int)))))) rfl rfl (or_ine _ _) ?_
                          refine awl_val hτ rfl rfl rfl ?_
                          refine awl_nil ?_
                          refine aw_weak (weak_ofP [0, 1] (l := [(5, .d (.fl .f32 x54)), (6, .d (.fl .f32 x55)), (10, .row 0 x60.length 0 x60.length), (17, .row 1 x70.1.length 0 x70.1.length), (110, .d (.bool (!(decide ((x70.1.length : Int) = (x60.length : Int))))))]) (objs := [.row 1 (x60.map eNatf32), .row 1 (x70.1.map eNatf32)]) rfl (by simp) rfl (by repeat' first | exact trivial | refine ⟨?_, ?_⟩) ⟨rfl, trivial, rfl, trivial, rfl, trivial, rfl, trivial, rfl, trivial, trivial⟩) ?_
                          exact hk138 (!(decide ((x70.1.length : Int) = (x60.length : Int)))) h
    · refine aw_seq ?_
      refine aw_seq ?_
      refine aw_region ?_
      refine awl_val hτ rfl rfl rfl ?_
      refine awl_need hτ rfl rfl rfl (len_map _) ?_
      refine awl_val hτ rfl rfl rfl ?_
      refine awl_nil ?_
      refine aw_block ?_
      refine aw_loop (ι := Nat × Nat × Int) (fun (m159, v154, v155) => St.of [(5, .d (.fl .f32 x54)), (6, .d (.fl .f32 x55)), (7, .d (.fl .f32 x57.1)), (8, .d (.bool x57.2)), (9, .d (.fl .f32 x58)), (10, .row 0 x60.length 0 x60.length), (11, .d (.fl .f32 v154)), (40, .d (.int .i64 (x60.length : Int))), (41, .d (.int .i64 v155))] [.row 1 (x60.map eNatf32)] f4.ntmps 0) (fun (m159, v154, v155) => m_laws_FnNumbers_l6 n x54 x55 x57 x58 x60 m159 v154 v155 = some r) (fun x => x.1) (n, (0 : Nat), (0 : Int)) h (weak_ofP [0] (l := [(5, .d (.fl .f32 x54)), (6, .d (.fl .f32 x55)), (7, .d (.fl .f32 x57.1)), (8, .d (.bool x57.2)), (9, .d (.fl .f32 x58)), (10, .row 0 x60.length 0 x60.length), (11, .d (.fl .f32 (0 : Nat))), (40, .d (.int .i64 (x60.length : Int))), (41, .d (.int .i64 (0 : Int)))]) (objs := [.row 1 (x60.map eNatf32)]) rfl (by simp) rfl (by repeat' first | exact trivial | refine ⟨?_, ?_⟩) ⟨rfl, trivial, rfl, trivial, rfl, trivial, rfl, trivial, rfl, trivial, rfl, trivial, rfl, trivial, rfl, trivial, rfl, trivial, trivial⟩) ?_
      rintro ⟨m159, v154, v155⟩ h
      replace h : m_laws_FnNumbers_l6 n x54 x55 x57 x58 x60 m159 v154 v155 = some r := h
      rcases m159 with _ | m159
      · rw [m_laws_FnNumbers_l6] at h; cases h
      rw [m_laws_FnNumbers_l6] at h
      refine aw_seq ?_
      refine aw_region ?_
      refine awl_val hτ rfl rfl rfl ?_
      refine awl_nil ?_
      refine aw_seq ?_
      refine aw_cond rfl (fun hc161 => ?_) (fun hc161 => ?_)
      · have h := if_t h hc161
        refine aw_skip ?_
        refine aw_seq ?_
        refine aw_block ?_
        refine aw_seq ?_
        refine aw_region ?_
        refine awl_val hτ rfl rfl rfl ?_
        refine awl_val hτ rfl rfl rfl ?_
        refine awl_nil ?_
        refine aw_region ?_
        refine awl_val hτ rfl rfl rfl ?_
        refine awl_val hτ rfl rfl rfl ?_
        refine awl_val hτ rfl rfl rfl ?_
        refine bnd_elim h fun x162 hx162 h => ?_
        refine awl_need hτ rfl rfl rfl (row_need hx162) ?_
        refine awl_elem hτ rfl rfl rfl (len_map _) (row_get hx162) rfl ?_
        refine awl_val hτ rfl rfl rfl ?_
        refine awl_val hτ rfl rfl rfl ?_
        refine awl_nil ?_
        refine aw_weak (weak_ofP [0] (l := [(5, .d (.fl .f32 x54)), (6, .d (.fl .f32 x55)), (7, .d (.fl .f32 x57.1)), (8, .d (.bool x57.2)), (9, .d (.fl .f32 x58)), (10, .row 0 x60.length 0 x60.length), (11, .d (.fl .f32 (farith .add .f32 v154 x162))), (40, .d (.int .i64 (x60.length : Int))), (41, .d (.int .i64 v155))]) (objs := [.row 1 (x60.map eNatf32)]) rfl (by simp) rfl (by repeat' first | exact trivial | refine ⟨?_, ?_⟩) ⟨rfl, trivial, rfl, trivial, rfl, trivial, rfl, trivial, rfl, trivial, rfl, trivial, rfl, trivial, rfl, trivial, rfl, trivial, trivial⟩) ?_
        refine aw_region ?_
        refine awl_val hτ rfl rfl rfl ?_
        refine awl_val hτ rfl rfl rfl ?_
        refine awl_nil ?_
        exact ⟨(m159, (farith .add .f32 v154 x162), (w64 (v155 + (1 : Int)))), h, Nat.lt_succ_self m159, (weak_ofP [0] (l := [(5, .d (.fl .f32 x54)), (6, .d (.fl .f32 x55)), (7, .d (.fl .f32 x57.1)), (8, .d (.bool x57.2)), (9, .d (.fl .f32 x58)), (10, .row 0 x60.length 0 x60.length), (11, .d (.fl .f32 (farith .add .f32 v154 x162))), (40, .d (.int .i64 (x60.length : Int))), (41, .d (.int .i64 (w64 (v155 + (1 : Int)))))]) (objs := [.row 1 (x60.map eNatf32)]) rfl (by simp) rfl (by repeat' first | exact trivial | refine ⟨?_, ?_⟩) ⟨rfl, trivial, rfl, trivial, rfl, trivial, rfl, trivial, rfl, trivial, rfl, trivial, rfl, trivial, rfl, trivial, rfl, trivial, trivial⟩)⟩
      · have h := if_f h hc161
        refine aw_exit ?_
        refine aw_weak (weak_ofP [0] (l := [(5, .d (.fl .f32 x54)), (6, .d (.fl .f32 x55)), (7, .d (.fl .f32 x57.1)), (8, .d (.bool x57.2)), (9, .d (.fl .f32 x58)), (10, .row 0 x60.length 0 x60.length), (11, .d (.fl .f32 v154))]) (objs := [.row 1 (x60.map eNatf32)]) rfl (by simp) rfl (by repeat' first | exact trivial | refine ⟨?_, ?_⟩) ⟨rfl, trivial, rfl, trivial, rfl, trivial, rfl, trivial, rfl, trivial, rfl, trivial, rfl, trivial, trivial⟩) ?_
        exact hk152 v154 h
theorem laws_FnNumbers_ok (n : Nat) (code_ : List Int) (more_ : List Int) {r : Bool} (h : m_laws_FnNumbers n code_ more_ = some r) : ACall prog false 4 [.d (.sl false (code_.map eIntu8)), .d (.sl false (more_.map eIntu8))] [] (fun v o new => v = .d (.bool r) ∧ o = [] ∧ new = []) := laws_FnNumbers_ok_fr0 false n code_ more_ h
theorem laws_FnNumbers_ok_fr (n : Nat) (code_ : List Int) (more_ : List Int) {r : Bool} (h : m_laws_FnNumbers n code_ more_ = some r) : ACall prog true 4 [.d (.sl false (code_.map eIntu8)), .d (.sl false (more_.map eIntu8))] [] (fun v o new => v = .d (.bool r) ∧ o = [] ∧ new = []) := laws_FnNumbers_ok_fr0 true n code_ more_ h

def m_spec_B10Whole_l1 (n : Nat) (most_ : Int) : Nat → Int → List Int → Int → Int → List Cx → Option (List Cx)
  | 0, _, _, _, _, _ => none
  | m35 + 1, v22, v23, v24, v25, v26 =>
    if v22 > (0 : Int) then
      (m_spec_l00Src_pick n (SL00Src.mk v23 v24 v25) (w64 ((w64 ((2 : Int) * most_)) + (1 : Int)))).bind fun x38 =>
      (m_spec_l00Src_pick n x38.2 (w64 ((w64 ((2 : Int) * most_)) + (1 : Int)))).bind fun x39 =>
      grd (room (v26.length + 1) 8) <|
      (m_spec_B10Whole_l1 n most_ m35) (w64 (v22 - (1 : Int))) x39.2.code x39.2.at_ x39.2.seed (v26 ++ [(Cx.mk (FloatKind.nearest .f32 (w64 (x38.1 - most_))) (FloatKind.nearest .f32 (w64 (x39.1 - most_))))])
    else
      some v26
def m_spec_B10Whole (n : Nat) (code_ : List Int) (n_ : Int) (most_ : Int) : Option (List Cx) :=
  (m_spec_l00From n code_).bind fun x18 =>
  m_spec_B10Whole_l1 n most_ n n_ x18.code x18.at_ x18.seed ([] : List Cx)
theorem spec_B10Whole_ok_fr0 (fr : Bool) (n : Nat) (code_ : List Int) (n_ : Int) (most_ : Int) {r : List Cx} (h : m_spec_B10Whole n code_ n_ most_ = some r) : ACall prog fr 7 [.d (.sl false (code_.map eIntu8)), .d (.int .i64 n_), .d (.int .i64 most_)] [] (fun v o new => v = .row 0 r.length 0 r.length ∧ o = [] ∧ new = [.row 1 (r.map eCxf32)]) := by
  refine acall_of_aw hτ func7 rfl (by simp) (by simp) ?_
  unfold m_spec_B10Whole at h
  refine aw_seq ?_
  refine aw_region ?_
  refine awl_val hτ rfl rfl rfl ?_
  refine awl_nil ?_
  refine aw_seq ?_
  refine aw_region ?_
  refine awl_val hτ rfl rfl rfl ?_
  refine bnd_elim h fun x18 hx18 h => ?_
  refine awl_callP hτ false [] rfl rfl rfl (enterOk func43 rfl rfl) rfl rfl (by simp) ⟨trivial, trivial⟩ (by repeat' first | exact trivial | refine ⟨?_, ?_⟩) (spec_l00From_ok n code_ hx18) ?_
  rintro r0 o0 n0 ⟨rfl, rfl, rfl⟩ -
  refine awl_val hτ rfl rfl rfl ?_
  refine awl_nil ?_
  refine aw_seq ?_
  refine aw_region ?_
  refine awl_valH hτ rfl rfl rfl ?_
  refine awl_val hτ rfl rfl rfl ?_
  refine awl_nil ?_
  refine aw_seq ?_
  refine aw_block ?_
  refine aw_loop (ι := Nat × Int × List Int × Int × Int × List Cx) (fun (m35, v22, v23, v24, v25, v26) => St.of [(1, .d (.int .i64 v22)), (2, .d (.int .i64 most_)), (7, .ptr 0 0), (8, .row 1 v26.length 0 v26.length)] [.box [.d (.sl false (v23.map eIntu8)), .d (.int .i64 v24), .d (.int .u64 v25)], .row 1 (v26.map eCxf32)] f7.ntmps 0) (fun (m35, v22, v23, v24, v25, v26) => m_spec_B10Whole_l1 n most_ m35 v22 v23 v24 v25 v26 = some r) (fun x => x.1) (n, n_, x18.code, x18.at_, x18.seed, ([] : List Cx)) h (weak_ofP [0, 1] (l := [(1, .d (.int .i64 n_)), (2, .d (.int .i64 most_)), (7, .ptr 0 0), (8, .row 1 (([] : List Cx).length) 0 (([] : List Cx).length))]) (objs := [.box [.d (.sl false (x18.code.map eIntu8)), .d (.int .i64 x18.at_), .d (.int .u64 x18.seed)], .row 1 (([] : List Cx).map eCxf32)]) rfl (by simp) rfl (by repeat' first | exact trivial | refine ⟨?_, ?_⟩) ⟨rfl, trivial, rfl, trivial, rfl, trivial, rfl, trivial, trivial⟩) ?_
  rintro ⟨m35, v22, v23, v24, v25, v26⟩ h
  replace h : m_spec_B10Whole_l1 n most_ m35 v22 v23 v24 v25 v26 = some r := h
  rcases m35 with _ | m35
  · rw [m_spec_B10Whole_l1] at h; cases h
  rw [m_spec_B10Whole_l1] at h
  refine aw_seq ?_
  refine aw_seq ?_
  refine aw_region ?_
  refine awl_val hτ rfl rfl rfl ?_
  refine awl_val hτ rfl rfl rfl ?_
  refine awl_nil ?_
  refine aw_cond rfl (fun hc37 => ?_) (fun hc37 => ?_)
  · have h := if_t h hc37
    refine aw_skip ?_
    refine aw_seq ?_
    refine aw_block ?_
    refine aw_seq ?_
    refine aw_region ?_
    refine awl_val hτ rfl rfl rfl ?_
    refine awl_val hτ rfl rfl rfl ?_
    refine awl_val hτ rfl rfl rfl ?_
    refine awl_val hτ rfl rfl rfl ?_
    refine bnd_elim h fun x38 hx38 h => ?_
    refine awl_callP hτ false [0] rfl rfl rfl (enterOk func44 rfl rfl) rfl rfl (by simp) ⟨trivial, trivial, trivial⟩ (by repeat' first | exact trivial | refine ⟨?_, ?_⟩) (spec_l00Src_pick_ok n (SL00Src.mk v23 v24 v25) (w64 ((w64 ((2 : Int) * most_)) + (1 : Int))) hx38) ?_
    rintro r0 o0 n0 ⟨rfl, rfl, rfl⟩ -
    refine awl_val hτ rfl rfl rfl ?_
    refine awl_val hτ rfl rfl rfl ?_
    refine awl_val hτ rfl rfl rfl ?_
    refine awl_val hτ rfl rfl rfl ?_
    refine awl_nil ?_
    refine aw_weak (weak_ofP [0, 1] (l := [(1, .d (.int .i64 v22)), (2, .d (.int .i64 most_)), (7, .ptr 0 0), (8, .row 1 v26.length 0 v26.length), (9, .d (.fl .f32 (FloatKind.nearest .f32 (w64 (x38.1 - most_)))))]) (objs := [.box [.d (.sl false (x38.2.code.map eIntu8)), .d (.int .i64 x38.2.at_), .d (.int .u64 x38.2.seed)], .row 1 (v26.map eCxf32)]) rfl (by simp) rfl (by repeat' first | exact trivial | refine ⟨?_, ?_⟩) ⟨rfl, trivial, rfl, trivial, rfl, trivial, rfl, trivial, rfl, trivial, trivial⟩) ?_
    refine aw_region ?_
    refine awl_val hτ rfl rfl rfl ?_
    refine awl_val hτ rfl rfl rfl ?_
    refine awl_val hτ rfl rfl rfl ?_
    refine awl_val hτ rfl rfl rfl ?_
    refine awl_val hτ rfl rfl rfl ?_
    refine awl_val hτ rfl rfl rfl ?_
    refine bnd_elim h fun x39 hx39 h => ?_
    refine awl_callP hτ false [0] rfl rfl rfl (enterOk func44 rfl rfl) rfl rfl (by simp) ⟨trivial, trivial, trivial⟩ (by repeat' first | exact trivial | refine ⟨?_, ?_⟩) (spec_l00Src_pick_ok n x38.2 (w64 ((w64 ((2 : Int) * most_)) + (1 : Int))) hx39) ?_
    rintro r0 o0 n0 ⟨rfl, rfl, rfl⟩ -
    refine awl_val hτ rfl rfl rfl ?_
    refine awl_val hτ rfl rfl rfl ?_
    refine awl_val hτ rfl rfl rfl ?_
    refine awl_val hτ rfl rfl rfl ?_
    refine awl_valH hτ rfl rfl rfl ?_
    refine awl_weak (weak_ofP [0, 1, 2] (l := [(1, .d (.int .i64 v22)), (2, .d (.int .i64 most_)), (7, .ptr 0 0), (8, .row 1 v26.length 0 v26.length), (25, .row 1 v26.length 0 v26.length), (36, .row 2 ([(Cx.mk (FloatKind.nearest .f32 (w64 (x38.1 - most_))) (FloatKind.nearest .f32 (w64 (x39.1 - most_))))].length) 0 ([(Cx.mk (FloatKind.nearest .f32 (w64 (x38.1 - most_))) (FloatKind.nearest .f32 (w64 (x39.1 - most_))))].length))]) (objs := [.box [.d (.sl false (x39.2.code.map eIntu8)), .d (.int .i64 x39.2.at_), .d (.int .u64 x39.2.seed)], .row 1 (v26.map eCxf32), .row 1 ([(Cx.mk (FloatKind.nearest .f32 (w64 (x38.1 - most_))) (FloatKind.nearest .f32 (w64 (x39.1 - most_))))].map eCxf32)]) rfl (by simp) rfl (by repeat' first | exact trivial | refine ⟨?_, ?_⟩) ⟨rfl, trivial, rfl, trivial, rfl, trivial, rfl, trivial, rfl, trivial, rfl, trivial, trivial⟩) ?_
    refine grd_elim h fun hg40 h => ?_
    refine awl_needH hτ rfl rfl (Eq.trans rfl (or_append (f := eCxf32) v26 [(Cx.mk (FloatKind.nearest .f32 (w64 (x38.1 - most_))) (FloatKind.nearest .f32 (w64 (x39.1 - most_))))] rfl)) ⟨⟨rfl, Nat.le_of_ble_eq_true rfl⟩, len_map _, rfl, rfl, hg40, by decide, (all1 rfl)⟩ ?_
    refine awl_val hτ rfl rfl rfl ?_
    refine awl_nil ?_
    refine aw_region ?_
    refine awl_val hτ rfl rfl rfl ?_
    refine awl_val hτ rfl rfl rfl ?_
    refine awl_val hτ rfl rfl rfl ?_
    refine awl_nil ?_
    exact ⟨(m35, (w64 (v22 - (1 : Int))), x39.2.code, x39.2.at_, x39.2.seed, (v26 ++ [(Cx.mk (FloatKind.nearest .f32 (w64 (x38.1 - most_))) (FloatKind.nearest .f32 (w64 (x39.1 - most_))))])), h, Nat.lt_succ_self m35, (weak_ofP [0, 1] (l := [(1, .d (.int .i64 (w64 (v22 - (1 : Int))))), (2, .d (.int .i64 most_)), (7, .ptr 0 0), (8, .row 1 ((v26 ++ [(Cx.mk (FloatKind.nearest .f32 (w64 (x38.1 - most_))) (FloatKind.nearest .f32 (w64 (x39.1 - most_))))]).length) 0 ((v26 ++ [(Cx.mk (FloatKind.nearest .f32 (w64 (x38.1 - most_))) (FloatKind.nearest .f32 (w64 (x39.1 - most_))))]).length))]) (objs := [.box [.d (.sl false (x39.2.code.map eIntu8)), .d (.int .i64 x39.2.at_), .d (.int .u64 x39.2.seed)], .row 1 ((v26 ++ [(Cx.mk (FloatKind.nearest .f32 (w64 (x38.1 - most_))) (FloatKind.nearest .f32 (w64 (x39.1 - most_))))]).map eCxf32)]) rfl (by simp) rfl (by repeat' first | exact trivial | refine ⟨?_, ?_⟩) ⟨rfl, trivial, rfl, trivial, rfl, trivial, rfl, trivial, trivial⟩)⟩
  · have h := if_f h hc37
    refine aw_exit ?_
    refine aw_seq ?_
    refine aw_region ?_
    refine awl_val hτ rfl rfl rfl ?_
    refine awl_val hτ rfl rfl rfl ?_
    refine awl_nil ?_
    refine aw_weak (weak_ofP [1] (l := [(6, .row 0 v26.length 0 v26.length)]) (objs := [.row 1 (v26.map eCxf32)]) rfl (by simp) rfl (by repeat' first | exact trivial | refine ⟨?_, ?_⟩) ⟨rfl, trivial, trivial⟩) ?_
    refine aw_ret ?_
    have hr := Option.some.inj h
    subst hr
    exact ret_objs (.inr rfl) [0] (objs' := []) (new := [.row 1 (v26.map eCxf32)]) rfl (by simp) (by simp) rfl (by repeat' first | exact trivial | refine ⟨?_, ?_⟩) rfl rfl (by repeat' first | exact trivial | refine ⟨?_, ?_⟩) (fun _ => ⟨by simp [V.flat, V.flatA, V.flatC, D.flat], (flat_cons (flat_row eCxf32_flat _) flat_nil)⟩) ⟨rfl, rfl, rfl⟩
theorem spec_B10Whole_ok (n : Nat) (code_ : List Int) (n_ : Int) (most_ : Int) {r : List Cx} (h : m_spec_B10Whole n code_ n_ most_ = some r) : ACall prog false 7 [.d (.sl false (code_.map eIntu8)), .d (.int .i64 n_), .d (.int .i64 most_)] [] (fun v o new => v = .row 0 r.length 0 r.length ∧ o = [] ∧ new = [.row 1 (r.map eCxf32)]) := spec_B10Whole_ok_fr0 false n code_ n_ most_ h
theorem spec_B10Whole_ok_fr (n : Nat) (code_ : List Int) (n_ : Int) (most_ : Int) {r : List Cx} (h : m_spec_B10Whole n code_ n_ most_ = some r) : ACall prog true 7 [.d (.sl false (code_.map eIntu8)), .d (.int .i64 n_), .d (.int .i64 most_)] [] (fun v o new => v = .row 0 r.length 0 r.length ∧ o = [] ∧ new = [.row 1 (r.map eCxf32)]) := spec_B10Whole_ok_fr0 true n code_ n_ most_ h

def m_impl_wide (n : Nat) (x_ : Cx) : Option (Nat × Nat) :=
  (fconv .f32 .f64 x_.re).bind fun x3 =>
  (fconv .f32 .f64 x_.im).bind fun x4 =>
  some (x3, x4)
theorem impl_wide_ok_fr0 (fr : Bool) (n : Nat) (x_ : Cx) {r : Nat × Nat} (h : m_impl_wide n x_ = some r) : ACall prog fr 45 [.d (.cx .f32 x_.re x_.im)] [] (fun v o new => v = .tup [.d (.fl .f64 r.1), .d (.fl .f64 r.2)] ∧ o = [] ∧ new = []) := by
  refine acall_of_aw hτ func45 rfl (by simp) (by simp) ?_
  unfold m_impl_wide at h
  refine aw_seq ?_
  refine aw_region ?_
  refine awl_val hτ rfl rfl rfl ?_
  refine awl_val hτ rfl rfl rfl ?_
  refine awl_nil ?_
  refine aw_seq ?_
  refine aw_region ?_
  refine awl_val hτ rfl rfl rfl ?_
  refine awl_val hτ rfl rfl rfl ?_
  refine bnd_elim h fun x3 hx3 h => ?_
  refine awl_val hτ (v := .d (.fl .f64 x3)) rfl rfl (conv_val hx3) ?_
  refine awl_val hτ rfl rfl rfl ?_
  refine awl_val hτ rfl rfl rfl ?_
  refine bnd_elim h fun x4 hx4 h => ?_
  refine awl_val hτ (v := .d (.fl .f64 x4)) rfl rfl (conv_val hx4) ?_
  refine awl_val hτ rfl rfl rfl ?_
  refine awl_val hτ rfl rfl rfl ?_
  refine awl_nil ?_
  refine aw_weak (weak_ofP [] (l := [(2, .d (.fl .f64 x3)), (3, .d (.fl .f64 x4))]) (objs := []) rfl (by simp) rfl (by repeat' first | exact trivial | refine ⟨?_, ?_⟩) ⟨rfl, trivial, rfl, trivial, trivial⟩) ?_
  refine aw_ret ?_
  have hr := Option.some.inj h
  subst hr
  exact ret_objs (.inr rfl) [] (objs' := []) (new := []) rfl (by simp) (by simp) rfl (by repeat' first | exact trivial | refine ⟨?_, ?_⟩) rfl rfl (by repeat' first | exact trivial | refine ⟨?_, ?_⟩) (fun _ => ⟨by simp [V.flat, V.flatA, V.flatC, D.flat], flat_nil⟩) ⟨rfl, rfl, rfl⟩
theorem impl_wide_ok (n : Nat) (x_ : Cx) {r : Nat × Nat} (h : m_impl_wide n x_ = some r) : ACall prog false 45 [.d (.cx .f32 x_.re x_.im)] [] (fun v o new => v = .tup [.d (.fl .f64 r.1), .d (.fl .f64 r.2)] ∧ o = [] ∧ new = []) := impl_wide_ok_fr0 false n x_ h
theorem impl_wide_ok_fr (n : Nat) (x_ : Cx) {r : Nat × Nat} (h : m_impl_wide n x_ = some r) : ACall prog true 45 [.d (.cx .f32 x_.re x_.im)] [] (fun v o new => v = .tup [.d (.fl .f64 r.1), .d (.fl .f64 r.2)] ∧ o = [] ∧ new = []) := impl_wide_ok_fr0 true n x_ h

def m_impl_MulComplex (n : Nat) (x_ : Cx) (y_ : Cx) : Option Cx :=
  (m_impl_wide n x_).bind fun x5 =>
  (m_impl_wide n y_).bind fun x6 =>
  (fconv .f64 .f32 (farith .sub .f64 (farith .mul .f64 x5.1 x6.1) (farith .mul .f64 x5.2 x6.2))).bind fun x7 =>
  (fconv .f64 .f32 (farith .add .f64 (farith .mul .f64 x5.1 x6.2) (farith .mul .f64 x5.2 x6.1))).bind fun x8 =>
  some (Cx.mk x7 x8)
theorem impl_MulComplex_ok_fr0 (fr : Bool) (n : Nat) (x_ : Cx) (y_ : Cx) {r : Cx} (h : m_impl_MulComplex n x_ y_ = some r) : ACall prog fr 8 [.d (.cx .f32 x_.re x_.im), .d (.cx .f32 y_.re y_.im)] [] (fun v o new => v = .d (.cx .f32 r.re r.im) ∧ o = [] ∧ new = []) := by
  refine acall_of_aw hτ func8 rfl (by simp) (by simp) ?_
  unfold m_impl_MulComplex at h
  refine aw_seq ?_
  refine aw_region ?_
  refine awl_val hτ rfl rfl rfl ?_
  refine awl_nil ?_
  refine aw_seq ?_
  refine aw_region ?_
  refine awl_val hτ rfl rfl rfl ?_
  refine bnd_elim h fun x5 hx5 h => ?_
  refine awl_callP hτ false [] rfl rfl rfl (enterOk func45 rfl rfl) rfl rfl (by simp) ⟨trivial, trivial⟩ (by repeat' first | exact trivial | refine ⟨?_, ?_⟩) (impl_wide_ok n x_ hx5) ?_
  rintro r0 o0 n0 ⟨rfl, rfl, rfl⟩ -
  refine awl_val hτ rfl rfl rfl ?_
  refine awl_val hτ rfl rfl rfl ?_
  refine awl_val hτ rfl rfl rfl ?_
  refine awl_val hτ rfl rfl rfl ?_
  refine awl_val hτ rfl rfl rfl ?_
  refine awl_nil ?_
  refine aw_seq ?_
  refine aw_weak (weak_ofP [] (l := [(1, .d (.cx .f32 y_.re y_.im)), (5, .d (.fl .f64 x5.1)), (6, .d (.fl .f64 x5.2))]) (objs := []) rfl (by simp) rfl (by repeat' first | exact trivial | refine ⟨?_, ?_⟩) ⟨rfl, trivial, rfl, trivial, rfl, trivial, trivial⟩) ?_
  refine aw_region ?_
  refine awl_val hτ rfl rfl rfl ?_
  refine bnd_elim h fun x6 hx6 h => ?_
  refine awl_callP hτ false [] rfl rfl rfl (enterOk func45 rfl rfl) rfl rfl (by simp) ⟨trivial, trivial⟩ (by repeat' first | exact trivial | refine ⟨?_, ?_⟩) (impl_wide_ok n y_ hx6) ?_
  rintro r0 o0 n0 ⟨rfl, rfl, rfl⟩ -
  refine awl_val hτ rfl rfl rfl ?_
  refine awl_val hτ rfl rfl rfl ?_
  refine awl_val hτ rfl rfl rfl ?_
  refine awl_val hτ rfl rfl rfl ?_
  refine awl_val hτ rfl rfl rfl ?_
  refine awl_nil ?_
  refine aw_seq ?_
  refine aw_weak (weak_ofP [] (l := [(5, .d (.fl .f64 x5.1)), (6, .d (.fl .f64 x5.2)), (7, .d (.fl .f64 x6.1)), (8, .d (.fl .f64 x6.2))]) (objs := []) rfl (by simp) rfl (by repeat' first | exact trivial | refine ⟨?_, ?_⟩) ⟨rfl, trivial, rfl, trivial, rfl, trivial, rfl, trivial, trivial⟩) ?_
  refine aw_region ?_
  refine awl_val hτ rfl rfl rfl ?_
  refine awl_val hτ rfl rfl rfl ?_
  refine awl_val hτ rfl rfl rfl ?_
  refine awl_val hτ rfl rfl rfl ?_
  refine awl_val hτ rfl rfl rfl ?_
  refine awl_val hτ rfl rfl rfl ?_
  refine awl_val hτ rfl rfl rfl ?_
  refine bnd_elim h fun x7 hx7 h => ?_
  refine awl_val hτ (v := .d (.fl .f32 x7)) rfl rfl (conv_val hx7) ?_
  refine awl_val hτ rfl rfl rfl ?_
  refine awl_val hτ rfl rfl rfl ?_
  refine awl_val hτ rfl rfl rfl ?_
  refine awl_val hτ rfl rfl rfl ?_
  refine awl_weak (weak_ofP [] (l := [(7, .d (.fl .f64 x6.1)), (26, .d (.fl .f32 x7)), (29, .d (.fl .f64 (farith .mul .f64 x5.1 x6.2))), (30, .d (.fl .f64 x5.2))]) (objs := []) rfl (by simp) rfl (by repeat' first | exact trivial | refine ⟨?_, ?_⟩) ⟨rfl, trivial, rfl, trivial, rfl, trivial, rfl, trivial, trivial⟩) ?_
  refine awl_val hτ rfl rfl rfl ?_
  refine awl_val hτ rfl rfl rfl ?_
  refine awl_val hτ rfl rfl rfl ?_
  refine bnd_elim h fun x8 hx8 h => ?_
  refine awl_val hτ (v := .d (.fl .f32 x8)) rfl rfl (conv_val hx8) ?_
  refine awl_val hτ rfl rfl rfl ?_
  refine awl_val hτ rfl rfl rfl ?_
  refine awl_nil ?_
  refine aw_weak (weak_ofP [] (l := [(4, .d (.cx .f32 x7 x8))]) (objs := []) rfl (by simp) rfl (by repeat' first | exact trivial | refine ⟨?_, ?_⟩) ⟨rfl, trivial, trivial⟩) ?_
  refine aw_ret ?_
  have hr := Option.some.inj h
  subst hr
  exact ret_objs (.inr rfl) [] (objs' := []) (new := []) rfl (by simp) (by simp) rfl (by repeat' first | exact trivial | refine ⟨?_, ?_⟩) rfl rfl (by repeat' first | exact trivial | refine ⟨?_, ?_⟩) (fun _ => ⟨by simp [V.flat, V.flatA, V.flatC, D.flat], flat_nil⟩) ⟨rfl, rfl, rfl⟩
theorem impl_MulComplex_ok (n : Nat) (x_ : Cx) (y_ : Cx) {r : Cx} (h : m_impl_MulComplex n x_ y_ = some r) : ACall prog false 8 [.d (.cx .f32 x_.re x_.im), .d (.cx .f32 y_.re y_.im)] [] (fun v o new => v = .d (.cx .f32 r.re r.im) ∧ o = [] ∧ new = []) := impl_MulComplex_ok_fr0 false n x_ y_ h
theorem impl_MulComplex_ok_fr (n : Nat) (x_ : Cx) (y_ : Cx) {r : Cx} (h : m_impl_MulComplex n x_ y_ = some r) : ACall prog true 8 [.d (.cx .f32 x_.re x_.im), .d (.cx .f32 y_.re y_.im)] [] (fun v o new => v = .d (.cx .f32 r.re r.im) ∧ o = [] ∧ new = []) := impl_MulComplex_ok_fr0 true n x_ y_ h

def m_impl_power (n : Nat) (x_ : Cx) : Option Nat :=
  (m_impl_wide n x_).bind fun x2 =>
  some (farith .add .f64 (farith .mul .f64 x2.1 x2.1) (farith .mul .f64 x2.2 x2.2))
theorem impl_power_ok_fr0 (fr : Bool) (n : Nat) (x_ : Cx) {r : Nat} (h : m_impl_power n x_ = some r) : ACall prog fr 46 [.d (.cx .f32 x_.re x_.im)] [] (fun v o new => v = .d (.fl .f64 r) ∧ o = [] ∧ new = []) := by
  refine acall_of_aw hτ func46 rfl (by simp) (by simp) ?_
  unfold m_impl_power at h
  refine aw_seq ?_
  refine aw_region ?_
  refine awl_val hτ rfl rfl rfl ?_
  refine awl_nil ?_
  refine aw_seq ?_
  refine aw_region ?_
  refine awl_val hτ rfl rfl rfl ?_
  refine bnd_elim h fun x2 hx2 h => ?_
  refine awl_callP hτ false [] rfl rfl rfl (enterOk func45 rfl rfl) rfl rfl (by simp) ⟨trivial, trivial⟩ (by repeat' first | exact trivial | refine ⟨?_, ?_⟩) (impl_wide_ok n x_ hx2) ?_
  rintro r0 o0 n0 ⟨rfl, rfl, rfl⟩ -
  refine awl_val hτ rfl rfl rfl ?_
  refine awl_val hτ rfl rfl rfl ?_
  refine awl_val hτ rfl rfl rfl ?_
  refine awl_val hτ rfl rfl rfl ?_
  refine awl_val hτ rfl rfl rfl ?_
  refine awl_nil ?_
  refine aw_seq ?_
  refine aw_weak (weak_ofP [] (l := [(3, .d (.fl .f64 x2.1)), (4, .d (.fl .f64 x2.2))]) (objs := []) rfl (by simp) rfl (by repeat' first | exact trivial | refine ⟨?_, ?_⟩) ⟨rfl, trivial, rfl, trivial, trivial⟩) ?_
  refine aw_region ?_
  refine awl_val hτ rfl rfl rfl ?_
  refine awl_val hτ rfl rfl rfl ?_
  refine awl_val hτ rfl rfl rfl ?_
  refine awl_val hτ rfl rfl rfl ?_
  refine awl_val hτ rfl rfl rfl ?_
  refine awl_val hτ rfl rfl rfl ?_
  refine awl_val hτ rfl rfl rfl ?_
  refine awl_val hτ rfl rfl rfl ?_
  refine awl_nil ?_
  refine aw_weak (weak_ofP [] (l := [(2, .d (.fl .f64 (farith .add .f64 (farith .mul .f64 x2.1 x2.1) (farith .mul .f64 x2.2 x2.2))))]) (objs := []) rfl (by simp) rfl (by repeat' first | exact trivial | refine ⟨?_, ?_⟩) ⟨rfl, trivial, trivial⟩) ?_
  refine aw_ret ?_
  have hr := Option.some.inj h
  subst hr
  exact ret_objs (.inr rfl) [] (objs' := []) (new := []) rfl (by simp) (by simp) rfl (by repeat' first | exact trivial | refine ⟨?_, ?_⟩) rfl rfl (by repeat' first | exact trivial | refine ⟨?_, ?_⟩) (fun _ => ⟨by simp [V.flat, V.flatA, V.flatC, D.flat], flat_nil⟩) ⟨rfl, rfl, rfl⟩
theorem impl_power_ok (n : Nat) (x_ : Cx) {r : Nat} (h : m_impl_power n x_ = some r) : ACall prog false 46 [.d (.cx .f32 x_.re x_.im)] [] (fun v o new => v = .d (.fl .f64 r) ∧ o = [] ∧ new = []) := impl_power_ok_fr0 false n x_ h
theorem impl_power_ok_fr (n : Nat) (x_ : Cx) {r : Nat} (h : m_impl_power n x_ = some r) : ACall prog true 46 [.d (.cx .f32 x_.re x_.im)] [] (fun v o new => v = .d (.fl .f64 r) ∧ o = [] ∧ new = []) := impl_power_ok_fr0 true n x_ h

def m_impl_PowerOf (n : Nat) (x_ : Cx) : Option Nat :=
  (m_impl_power n x_).bind fun x3 =>
  (fconv .f64 .f32 x3).bind fun x4 =>
  some x4
theorem impl_PowerOf_ok_fr0 (fr : Bool) (n : Nat) (x_ : Cx) {r : Nat} (h : m_impl_PowerOf n x_ = some r) : ACall prog fr 9 [.d (.cx .f32 x_.re x_.im)] [] (fun v o new => v = .d (.fl .f32 r) ∧ o = [] ∧ new = []) := by
  refine acall_of_aw hτ func9 rfl (by simp) (by simp) ?_
  unfold m_impl_PowerOf at h
  refine aw_seq ?_
  refine aw_region ?_
  refine awl_val hτ rfl rfl rfl ?_
  refine awl_nil ?_
  refine aw_seq ?_
  refine aw_region ?_
  refine awl_val hτ rfl rfl rfl ?_
  refine bnd_elim h fun x3 hx3 h => ?_
  refine awl_callP hτ false [] rfl rfl rfl (enterOk func46 rfl rfl) rfl rfl (by simp) ⟨trivial, trivial⟩ (by repeat' first | exact trivial | refine ⟨?_, ?_⟩) (impl_power_ok n x_ hx3) ?_
  rintro r0 o0 n0 ⟨rfl, rfl, rfl⟩ -
  refine bnd_elim h fun x4 hx4 h => ?_
  refine awl_val hτ (v := .d (.fl .f32 x4)) rfl rfl (conv_val hx4) ?_
  refine awl_val hτ rfl rfl rfl ?_
  refine awl_nil ?_
  refine aw_weak (weak_ofP [] (l := [(2, .d (.fl .f32 x4))]) (objs := []) rfl (by simp) rfl (by repeat' first | exact trivial | refine ⟨?_, ?_⟩) ⟨rfl, trivial, trivial⟩) ?_
  refine aw_ret ?_
  have hr := Option.some.inj h
  subst hr
  exact ret_objs (.inr rfl) [] (objs' := []) (new := []) rfl (by simp) (by simp) rfl (by repeat' first | exact trivial | refine ⟨?_, ?_⟩) rfl rfl (by repeat' first | exact trivial | refine ⟨?_, ?_⟩) (fun _ => ⟨by simp [V.flat, V.flatA, V.flatC, D.flat], flat_nil⟩) ⟨rfl, rfl, rfl⟩
theorem impl_PowerOf_ok (n : Nat) (x_ : Cx) {r : Nat} (h : m_impl_PowerOf n x_ = some r) : ACall prog false 9 [.d (.cx .f32 x_.re x_.im)] [] (fun v o new => v = .d (.fl .f32 r) ∧ o = [] ∧ new = []) := impl_PowerOf_ok_fr0 false n x_ h
theorem impl_PowerOf_ok_fr (n : Nat) (x_ : Cx) {r : Nat} (h : m_impl_PowerOf n x_ = some r) : ACall prog true 9 [.d (.cx .f32 x_.re x_.im)] [] (fun v o new => v = .d (.fl .f32 r) ∧ o = [] ∧ new = []) := impl_PowerOf_ok_fr0 true n x_ h

def m_impl_ConjugateOf (n : Nat) (x_ : Cx) : Option Cx :=
  some (Cx.mk x_.re (fneg .f32 x_.im))
theorem impl_ConjugateOf_ok_fr0 (fr : Bool) (n : Nat) (x_ : Cx) {r : Cx} (h : m_impl_ConjugateOf n x_ = some r) : ACall prog fr 10 [.d (.cx .f32 x_.re x_.im)] [] (fun v o new => v = .d (.cx .f32 r.re r.im) ∧ o = [] ∧ new = []) := by
  refine acall_of_aw hτ func10 rfl (by simp) (by simp) ?_
  unfold m_impl_ConjugateOf at h
  refine aw_seq ?_
  refine aw_region ?_
  refine awl_val hτ rfl rfl rfl ?_
  refine awl_nil ?_
  refine aw_seq ?_
  refine aw_region ?_
  refine awl_val hτ rfl rfl rfl ?_
  refine awl_val hτ rfl rfl rfl ?_
  refine awl_val hτ rfl rfl rfl ?_
  refine awl_val hτ rfl rfl rfl ?_
  refine awl_val hτ rfl rfl rfl ?_
  refine awl_val hτ rfl rfl rfl ?_
  refine awl_val hτ rfl rfl rfl ?_
  refine awl_nil ?_
  refine aw_weak (weak_ofP [] (l := [(2, .d (.cx .f32 x_.re (fneg .f32 x_.im)))]) (objs := []) rfl (by simp) rfl (by repeat' first | exact trivial | refine ⟨?_, ?_⟩) ⟨rfl, trivial, trivial⟩) ?_
  refine aw_ret ?_
  have hr := Option.some.inj h
  subst hr
  exact ret_objs (.inr rfl) [] (objs' := []) (new := []) rfl (by simp) (by simp) rfl (by repeat' first | exact trivial | refine ⟨?_, ?_⟩) rfl rfl (by repeat' first | exact trivial | refine ⟨?_, ?_⟩) (fun _ => ⟨by simp [V.flat, V.flatA, V.flatC, D.flat], flat_nil⟩) ⟨rfl, rfl, rfl⟩
theorem impl_ConjugateOf_ok (n : Nat) (x_ : Cx) {r : Cx} (h : m_impl_ConjugateOf n x_ = some r) : ACall prog false 10 [.d (.cx .f32 x_.re x_.im)] [] (fun v o new => v = .d (.cx .f32 r.re r.im) ∧ o = [] ∧ new = []) := impl_ConjugateOf_ok_fr0 false n x_ h
theorem impl_ConjugateOf_ok_fr (n : Nat) (x_ : Cx) {r : Cx} (h : m_impl_ConjugateOf n x_ = some r) : ACall prog true 10 [.d (.cx .f32 x_.re x_.im)] [] (fun v o new => v = .d (.cx .f32 r.re r.im) ∧ o = [] ∧ new = []) := impl_ConjugateOf_ok_fr0 true n x_ h

def m_impl_LongOf (n : Nat) (x_ : Cx) : Option Nat :=
  (m_impl_power n x_).bind fun x4 =>
  (m_math_Sqrt n x4).bind fun x5 =>
  (fconv .f64 .f32 x5).bind fun x6 =>
  some x6
theorem impl_LongOf_ok_fr0 (fr : Bool) (n : Nat) (x_ : Cx) {r : Nat} (h : m_impl_LongOf n x_ = some r) : ACall prog fr 12 [.d (.cx .f32 x_.re x_.im)] [] (fun v o new => v = .d (.fl .f32 r) ∧ o = [] ∧ new = []) := by
  refine acall_of_aw hτ func12 rfl (by simp) (by simp) ?_
  unfold m_impl_LongOf at h
  refine aw_seq ?_
  refine aw_region ?_
  refine awl_val hτ rfl rfl rfl ?_
  refine awl_nil ?_
  refine aw_seq ?_
  refine aw_region ?_
  refine awl_val hτ rfl rfl rfl ?_
  refine bnd_elim h fun x4 hx4 h => ?_
  refine awl_callP hτ false [] rfl rfl rfl (enterOk func46 rfl rfl) rfl rfl (by simp) ⟨trivial, trivial⟩ (by repeat' first | exact trivial | refine ⟨?_, ?_⟩) (impl_power_ok n x_ hx4) ?_
  rintro r0 o0 n0 ⟨rfl, rfl, rfl⟩ -
  refine bnd_elim h fun x5 hx5 h => ?_
  refine awl_callP hτ false [] rfl rfl rfl (enterOk func48 rfl rfl) rfl rfl (by simp) ⟨trivial, trivial⟩ (by repeat' first | exact trivial | refine ⟨?_, ?_⟩) (math_Sqrt_ok n x4 hx5) ?_
  rintro r0 o0 n0 ⟨rfl, rfl, rfl⟩ -
  refine bnd_elim h fun x6 hx6 h => ?_
  refine awl_val hτ (v := .d (.fl .f32 x6)) rfl rfl (conv_val hx6) ?_
  refine awl_val hτ rfl rfl rfl ?_
  refine awl_nil ?_
  refine aw_weak (weak_ofP [] (l := [(2, .d (.fl .f32 x6))]) (objs := []) rfl (by simp) rfl (by repeat' first | exact trivial | refine ⟨?_, ?_⟩) ⟨rfl, trivial, trivial⟩) ?_
  refine aw_ret ?_
  have hr := Option.some.inj h
  subst hr
  exact ret_objs (.inr rfl) [] (objs' := []) (new := []) rfl (by simp) (by simp) rfl (by repeat' first | exact trivial | refine ⟨?_, ?_⟩) rfl rfl (by repeat' first | exact trivial | refine ⟨?_, ?_⟩) (fun _ => ⟨by simp [V.flat, V.flatA, V.flatC, D.flat], flat_nil⟩) ⟨rfl, rfl, rfl⟩
theorem impl_LongOf_ok (n : Nat) (x_ : Cx) {r : Nat} (h : m_impl_LongOf n x_ = some r) : ACall prog false 12 [.d (.cx .f32 x_.re x_.im)] [] (fun v o new => v = .d (.fl .f32 r) ∧ o = [] ∧ new = []) := impl_LongOf_ok_fr0 false n x_ h
theorem impl_LongOf_ok_fr (n : Nat) (x_ : Cx) {r : Nat} (h : m_impl_LongOf n x_ = some r) : ACall prog true 12 [.d (.cx .f32 x_.re x_.im)] [] (fun v o new => v = .d (.fl .f32 r) ∧ o = [] ∧ new = []) := impl_LongOf_ok_fr0 true n x_ h

def m_spec_l01Narrow (n : Nat) (x_ : Nat) : Option Nat :=
  (fconv .f64 .f32 x_).bind fun x2 =>
  some x2
theorem spec_l01Narrow_ok_fr0 (fr : Bool) (n : Nat) (x_ : Nat) {r : Nat} (h : m_spec_l01Narrow n x_ = some r) : ACall prog fr 91 [.d (.fl .f64 x_)] [] (fun v o new => v = .d (.fl .f32 r) ∧ o = [] ∧ new = []) := by
  refine acall_of_aw hτ func91 rfl (by simp) (by simp) ?_
  unfold m_spec_l01Narrow at h
  refine aw_seq ?_
  refine aw_region ?_
  refine awl_val hτ rfl rfl rfl ?_
  refine awl_nil ?_
  refine aw_seq ?_
  refine aw_region ?_
  refine awl_val hτ rfl rfl rfl ?_
  refine bnd_elim h fun x2 hx2 h => ?_
  refine awl_val hτ (v := .d (.fl .f32 x2)) rfl rfl (conv_val hx2) ?_
  refine awl_val hτ rfl rfl rfl ?_
  refine awl_nil ?_
  refine aw_weak (weak_ofP [] (l := [(2, .d (.fl .f32 x2))]) (objs := []) rfl (by simp) rfl (by repeat' first | exact trivial | refine ⟨?_, ?_⟩) ⟨rfl, trivial, trivial⟩) ?_
  refine aw_ret ?_
  have hr := Option.some.inj h
  subst hr
  exact ret_objs (.inr rfl) [] (objs' := []) (new := []) rfl (by simp) (by simp) rfl (by repeat' first | exact trivial | refine ⟨?_, ?_⟩) rfl rfl (by repeat' first | exact trivial | refine ⟨?_, ?_⟩) (fun _ => ⟨by simp [V.flat, V.flatA, V.flatC, D.flat], flat_nil⟩) ⟨rfl, rfl, rfl⟩
theorem spec_l01Narrow_ok (n : Nat) (x_ : Nat) {r : Nat} (h : m_spec_l01Narrow n x_ = some r) : ACall prog false 91 [.d (.fl .f64 x_)] [] (fun v o new => v = .d (.fl .f32 r) ∧ o = [] ∧ new = []) := spec_l01Narrow_ok_fr0 false n x_ h
theorem spec_l01Narrow_ok_fr (n : Nat) (x_ : Nat) {r : Nat} (h : m_spec_l01Narrow n x_ = some r) : ACall prog true 91 [.d (.fl .f64 x_)] [] (fun v o new => v = .d (.fl .f32 r) ∧ o = [] ∧ new = []) := spec_l01Narrow_ok_fr0 true n x_ h

def m_spec_l01Sqrt (n : Nat) (x_ : Nat) : Option Nat :=
  (fconv .f32 .f64 x_).bind fun x4 =>
  (m_math_Sqrt n x4).bind fun x5 =>
  (m_spec_l01Narrow n x5).bind fun x6 =>
  some x6
theorem spec_l01Sqrt_ok_fr0 (fr : Bool) (n : Nat) (x_ : Nat) {r : Nat} (h : m_spec_l01Sqrt n x_ = some r) : ACall prog fr 49 [.d (.fl .f32 x_)] [] (fun v o new => v = .d (.fl .f32 r) ∧ o = [] ∧ new = []) := by
  refine acall_of_aw hτ func49 rfl (by simp) (by simp) ?_
  unfold m_spec_l01Sqrt at h
  refine aw_seq ?_
  refine aw_region ?_
  refine awl_val hτ rfl rfl rfl ?_
  refine awl_nil ?_
  refine aw_seq ?_
  refine aw_region ?_
  refine awl_val hτ rfl rfl rfl ?_
  refine bnd_elim h fun x4 hx4 h => ?_
  refine awl_val hτ (v := .d (.fl .f64 x4)) rfl rfl (conv_val hx4) ?_
  refine bnd_elim h fun x5 hx5 h => ?_
  refine awl_callP hτ false [] rfl rfl rfl (enterOk func48 rfl rfl) rfl rfl (by simp) ⟨trivial, trivial⟩ (by repeat' first | exact trivial | refine ⟨?_, ?_⟩) (math_Sqrt_ok n x4 hx5) ?_
  rintro r0 o0 n0 ⟨rfl, rfl, rfl⟩ -
  refine bnd_elim h fun x6 hx6 h => ?_
  refine awl_callP hτ false [] rfl rfl rfl (enterOk func91 rfl rfl) rfl rfl (by simp) ⟨trivial, trivial⟩ (by repeat' first | exact trivial | refine ⟨?_, ?_⟩) (spec_l01Narrow_ok n x5 hx6) ?_
  rintro r0 o0 n0 ⟨rfl, rfl, rfl⟩ -
  refine awl_val hτ rfl rfl rfl ?_
  refine awl_nil ?_
  refine aw_weak (weak_ofP [] (l := [(2, .d (.fl .f32 x6))]) (objs := []) rfl (by simp) rfl (by repeat' first | exact trivial | refine ⟨?_, ?_⟩) ⟨rfl, trivial, trivial⟩) ?_
  refine aw_ret ?_
  have hr := Option.some.inj h
  subst hr
  exact ret_objs (.inr rfl) [] (objs' := []) (new := []) rfl (by simp) (by simp) rfl (by repeat' first | exact trivial | refine ⟨?_, ?_⟩) rfl rfl (by repeat' first | exact trivial | refine ⟨?_, ?_⟩) (fun _ => ⟨by simp [V.flat, V.flatA, V.flatC, D.flat], flat_nil⟩) ⟨rfl, rfl, rfl⟩
theorem spec_l01Sqrt_ok (n : Nat) (x_ : Nat) {r : Nat} (h : m_spec_l01Sqrt n x_ = some r) : ACall prog false 49 [.d (.fl .f32 x_)] [] (fun v o new => v = .d (.fl .f32 r) ∧ o = [] ∧ new = []) := spec_l01Sqrt_ok_fr0 false n x_ h
theorem spec_l01Sqrt_ok_fr (n : Nat) (x_ : Nat) {r : Nat} (h : m_spec_l01Sqrt n x_ = some r) : ACall prog true 49 [.d (.fl .f32 x_)] [] (fun v o new => v = .d (.fl .f32 r) ∧ o = [] ∧ new = []) := spec_l01Sqrt_ok_fr0 true n x_ h

def m_spec_RootNumber (n : Nat) (x_ : Nat) : Option Nat :=
  (m_spec_l01Sqrt n x_).bind fun x2 =>
  some x2
theorem spec_RootNumber_ok_fr0 (fr : Bool) (n : Nat) (x_ : Nat) {r : Nat} (h : m_spec_RootNumber n x_ = some r) : ACall prog fr 13 [.d (.fl .f32 x_)] [] (fun v o new => v = .d (.fl .f32 r) ∧ o = [] ∧ new = []) := by
  refine acall_of_aw hτ func13 rfl (by simp) (by simp) ?_
  unfold m_spec_RootNumber at h
  refine aw_seq ?_
  refine aw_region ?_
  refine awl_val hτ rfl rfl rfl ?_
  refine awl_nil ?_
  refine aw_seq ?_
  refine aw_region ?_
  refine awl_val hτ rfl rfl rfl ?_
  refine bnd_elim h fun x2 hx2 h => ?_
  refine awl_callP hτ false [] rfl rfl rfl (enterOk func49 rfl rfl) rfl rfl (by simp) ⟨trivial, trivial⟩ (by repeat' first | exact trivial | refine ⟨?_, ?_⟩) (spec_l01Sqrt_ok n x_ hx2) ?_
  rintro r0 o0 n0 ⟨rfl, rfl, rfl⟩ -
  refine awl_val hτ rfl rfl rfl ?_
  refine awl_nil ?_
  refine aw_weak (weak_ofP [] (l := [(2, .d (.fl .f32 x2))]) (objs := []) rfl (by simp) rfl (by repeat' first | exact trivial | refine ⟨?_, ?_⟩) ⟨rfl, trivial, trivial⟩) ?_
  refine aw_ret ?_
  have hr := Option.some.inj h
  subst hr
  exact ret_objs (.inr rfl) [] (objs' := []) (new := []) rfl (by simp) (by simp) rfl (by repeat' first | exact trivial | refine ⟨?_, ?_⟩) rfl rfl (by repeat' first | exact trivial | refine ⟨?_, ?_⟩) (fun _ => ⟨by simp [V.flat, V.flatA, V.flatC, D.flat], flat_nil⟩) ⟨rfl, rfl, rfl⟩
theorem spec_RootNumber_ok (n : Nat) (x_ : Nat) {r : Nat} (h : m_spec_RootNumber n x_ = some r) : ACall prog false 13 [.d (.fl .f32 x_)] [] (fun v o new => v = .d (.fl .f32 r) ∧ o = [] ∧ new = []) := spec_RootNumber_ok_fr0 false n x_ h
theorem spec_RootNumber_ok_fr (n : Nat) (x_ : Nat) {r : Nat} (h : m_spec_RootNumber n x_ = some r) : ACall prog true 13 [.d (.fl .f32 x_)] [] (fun v o new => v = .d (.fl .f32 r) ∧ o = [] ∧ new = []) := spec_RootNumber_ok_fr0 true n x_ h

def m_impl_QuotientOf (n : Nat) (x_ : Cx) (y_ : Cx) : Option Cx :=
  (m_impl_wide n x_).bind fun x7 =>
  (m_impl_ConjugateOf n y_).bind fun x8 =>
  (m_impl_wide n x8).bind fun x9 =>
  (m_impl_power n y_).bind fun x10 =>
  (fconv .f64 .f32 (farith .quo .f64 (farith .sub .f64 (farith .mul .f64 x7.1 x9.1) (farith .mul .f64 x7.2 x9.2)) x10)).bind fun x11 =>
  (fconv .f64 .f32 (farith .quo .f64 (farith .add .f64 (farith .mul .f64 x7.1 x9.2) (farith .mul .f64 x7.2 x9.1)) x10)).bind fun x12 =>
  some (Cx.mk x11 x12)
theorem impl_QuotientOf_ok_fr0 (fr : Bool) (n : Nat) (x_ : Cx) (y_ : Cx) {r : Cx} (h : m_impl_QuotientOf n x_ y_ = some r) : ACall prog fr 14 [.d (.cx .f32 x_.re x_.im), .d (.cx .f32 y_.re y_.im)] [] (fun v o new => v = .d (.cx .f32 r.re r.im) ∧ o = [] ∧ new = []) := by
  refine acall_of_aw hτ func14 rfl (by simp) (by simp) ?_
  unfold m_impl_QuotientOf at h
  refine aw_seq ?_
  refine aw_region ?_
  refine awl_val hτ rfl rfl rfl ?_
  refine awl_nil ?_
  refine aw_seq ?_
  refine aw_region ?_
  refine awl_val hτ rfl rfl rfl ?_
  refine bnd_elim h fun x7 hx7 h => ?_
  refine awl_callP hτ false [] rfl rfl rfl (enterOk func45 rfl rfl) rfl rfl (by simp) ⟨trivial, trivial⟩ (by repeat' first | exact trivial | refine ⟨?_, ?_⟩) (impl_wide_ok n x_ hx7) ?_
  rintro r0 o0 n0 ⟨rfl, rfl, rfl⟩ -
  refine awl_val hτ rfl rfl rfl ?_
  refine awl_val hτ rfl rfl rfl ?_
  refine awl_val hτ rfl rfl rfl ?_
  refine awl_val hτ rfl rfl rfl ?_
  refine awl_val hτ rfl rfl rfl ?_
  refine awl_nil ?_
  refine aw_seq ?_
  refine aw_weak (weak_ofP [] (l := [(1, .d (.cx .f32 y_.re y_.im)), (5, .d (.fl .f64 x7.1)), (6, .d (.fl .f64 x7.2))]) (objs := []) rfl (by simp) rfl (by repeat' first | exact trivial | refine ⟨?_, ?_⟩) ⟨rfl, trivial, rfl, trivial, rfl, trivial, trivial⟩) ?_
  refine aw_region ?_
  refine awl_val hτ rfl rfl rfl ?_
  refine bnd_elim h fun x8 hx8 h => ?_
  refine awl_callP hτ false [] rfl rfl rfl (enterOk func10 rfl rfl) rfl rfl (by simp) ⟨trivial, trivial⟩ (by repeat' first | exact trivial | refine ⟨?_, ?_⟩) (impl_ConjugateOf_ok n y_ hx8) ?_
  rintro r0 o0 n0 ⟨rfl, rfl, rfl⟩ -
  refine bnd_elim h fun x9 hx9 h => ?_
  refine awl_callP hτ false [] rfl rfl rfl (enterOk func45 rfl rfl) rfl rfl (by simp) ⟨trivial, trivial⟩ (by repeat' first | exact trivial | refine ⟨?_, ?_⟩) (impl_wide_ok n x8 hx9) ?_
  rintro r0 o0 n0 ⟨rfl, rfl, rfl⟩ -
  refine awl_val hτ rfl rfl rfl ?_
  refine awl_val hτ rfl rfl rfl ?_
  refine awl_val hτ rfl rfl rfl ?_
  refine awl_val hτ rfl rfl rfl ?_
  refine awl_val hτ rfl rfl rfl ?_
  refine awl_nil ?_
  refine aw_seq ?_
  refine aw_weak (weak_ofP [] (l := [(1, .d (.cx .f32 y_.re y_.im)), (5, .d (.fl .f64 x7.1)), (6, .d (.fl .f64 x7.2)), (7, .d (.fl .f64 x9.1)), (8, .d (.fl .f64 x9.2))]) (objs := []) rfl (by simp) rfl (by repeat' first | exact trivial | refine ⟨?_, ?_⟩) ⟨rfl, trivial, rfl, trivial, rfl, trivial, rfl, trivial, rfl, trivial, trivial⟩) ?_
  refine aw_region ?_
  refine awl_val hτ rfl rfl rfl ?_
  refine bnd_elim h fun x10 hx10 h => ?_
  refine awl_callP hτ false [] rfl rfl rfl (enterOk func46 rfl rfl) rfl rfl (by simp) ⟨trivial, trivial⟩ (by repeat' first | exact trivial | refine ⟨?_, ?_⟩) (impl_power_ok n y_ hx10) ?_
  rintro r0 o0 n0 ⟨rfl, rfl, rfl⟩ -
  refine awl_val hτ rfl rfl rfl ?_
  refine awl_nil ?_
  refine aw_seq ?_
  refine aw_region ?_
  refine awl_val hτ rfl rfl rfl ?_
  refine awl_val hτ rfl rfl rfl ?_
  refine awl_val hτ rfl rfl rfl ?_
  refine awl_val hτ rfl rfl rfl ?_
  refine awl_val hτ rfl rfl rfl ?_
  refine awl_val hτ rfl rfl rfl ?_
  refine awl_val hτ rfl rfl rfl ?_
  refine awl_val hτ rfl rfl rfl ?_
  refine awl_val hτ rfl rfl rfl ?_
  refine awl_weak (weak_ofP [] (l := [(6, .d (.fl .f64 x7.2)), (7, .d (.fl .f64 x9.1)), (9, .d (.fl .f64 x10)), (31, .d (.fl .f64 (farith .sub .f64 (farith .mul .f64 x7.1 x9.1) (farith .mul .f64 x7.2 x9.2)))), (32, .d (.fl .f64 x7.1)), (33, .d (.fl .f64 x9.2))]) (objs := []) rfl (by simp) rfl (by repeat' first | exact trivial | refine ⟨?_, ?_⟩) ⟨rfl, trivial, rfl, trivial, rfl, trivial, rfl, trivial, rfl, trivial, rfl, trivial, trivial⟩) ?_
  refine awl_val hτ rfl rfl rfl ?_
  refine awl_val hτ rfl rfl rfl ?_
  refine awl_val hτ rfl rfl rfl ?_
  refine awl_val hτ rfl rfl rfl ?_
  refine awl_val hτ rfl rfl rfl ?_
  refine awl_val hτ rfl rfl rfl ?_
  refine awl_val hτ rfl rfl rfl ?_
  refine awl_nil ?_
  refine aw_seq ?_
  refine aw_weak (weak_ofP [] (l := [(9, .d (.fl .f64 x10)), (10, .d (.fl .f64 (farith .sub .f64 (farith .mul .f64 x7.1 x9.1) (farith .mul .f64 x7.2 x9.2)))), (11, .d (.fl .f64 (farith .add .f64 (farith .mul .f64 x7.1 x9.2) (farith .mul .f64 x7.2 x9.1))))]) (objs := []) rfl (by simp) rfl (by repeat' first | exact trivial | refine ⟨?_, ?_⟩) ⟨rfl, trivial, rfl, trivial, rfl, trivial, trivial⟩) ?_
  refine aw_region ?_
  refine awl_val hτ rfl rfl rfl ?_
  refine awl_val hτ rfl rfl rfl ?_
  refine awl_val hτ rfl rfl rfl ?_
  refine bnd_elim h fun x11 hx11 h => ?_
  refine awl_val hτ (v := .d (.fl .f32 x11)) rfl rfl (conv_val hx11) ?_
  refine awl_val hτ rfl rfl rfl ?_
  refine awl_val hτ rfl rfl rfl ?_
  refine awl_val hτ rfl rfl rfl ?_
  refine bnd_elim h fun x12 hx12 h => ?_
  refine awl_val hτ (v := .d (.fl .f32 x12)) rfl rfl (conv_val hx12) ?_
  refine awl_val hτ rfl rfl rfl ?_
  refine awl_val hτ rfl rfl rfl ?_
  refine awl_nil ?_
  refine aw_weak (weak_ofP [] (l := [(4, .d (.cx .f32 x11 x12))]) (objs := []) rfl (by simp) rfl (by repeat' first | exact trivial | refine ⟨?_, ?_⟩) ⟨rfl, trivial, trivial⟩) ?_
  refine aw_ret ?_
  have hr := Option.some.inj h
  subst hr
  exact ret_objs (.inr rfl) [] (objs' := []) (new := []) rfl (by simp) (by simp) rfl (by repeat' first | exact trivial | refine ⟨?_, ?_⟩) rfl rfl (by repeat' first | exact trivial | refine ⟨?_, ?_⟩) (fun _ => ⟨by simp [V.flat, V.flatA, V.flatC, D.flat], flat_nil⟩) ⟨rfl, rfl, rfl⟩
theorem impl_QuotientOf_ok (n : Nat) (x_ : Cx) (y_ : Cx) {r : Cx} (h : m_impl_QuotientOf n x_ y_ = some r) : ACall prog false 14 [.d (.cx .f32 x_.re x_.im), .d (.cx .f32 y_.re y_.im)] [] (fun v o new => v = .d (.cx .f32 r.re r.im) ∧ o = [] ∧ new = []) := impl_QuotientOf_ok_fr0 false n x_ y_ h
theorem impl_QuotientOf_ok_fr (n : Nat) (x_ : Cx) (y_ : Cx) {r : Cx} (h : m_impl_QuotientOf n x_ y_ = some r) : ACall prog true 14 [.d (.cx .f32 x_.re x_.im), .d (.cx .f32 y_.re y_.im)] [] (fun v o new => v = .d (.cx .f32 r.re r.im) ∧ o = [] ∧ new = []) := impl_QuotientOf_ok_fr0 true n x_ y_ h

def m_impl_ScaleComplex (n : Nat) (x_ : Cx) (by_ : Nat) : Option Cx :=
  some (Cx.mk (farith .mul .f32 x_.re by_) (farith .mul .f32 x_.im by_))
theorem impl_ScaleComplex_ok_fr0 (fr : Bool) (n : Nat) (x_ : Cx) (by_ : Nat) {r : Cx} (h : m_impl_ScaleComplex n x_ by_ = some r) : ACall prog fr 15 [.d (.cx .f32 x_.re x_.im), .d (.fl .f32 by_)] [] (fun v o new => v = .d (.cx .f32 r.re r.im) ∧ o = [] ∧ new = []) := by
  refine acall_of_aw hτ func15 rfl (by simp) (by simp) ?_
  unfold m_impl_ScaleComplex at h
  refine aw_seq ?_
  refine aw_region ?_
  refine awl_val hτ rfl rfl rfl ?_
  refine awl_nil ?_
  refine aw_seq ?_
  refine aw_region ?_
  refine awl_val hτ rfl rfl rfl ?_
  refine awl_val hτ rfl rfl rfl ?_
  refine awl_val hτ rfl rfl rfl ?_
  refine awl_val hτ rfl rfl rfl ?_
  refine awl_val hτ rfl rfl rfl ?_
  refine awl_val hτ rfl rfl rfl ?_
  refine awl_val hτ rfl rfl rfl ?_
  refine awl_val hτ rfl rfl rfl ?_
  refine awl_val hτ rfl rfl rfl ?_
  refine awl_val hτ rfl rfl rfl ?_
  refine awl_nil ?_
  refine aw_weak (weak_ofP [] (l := [(4, .d (.cx .f32 (farith .mul .f32 x_.re by_) (farith .mul .f32 x_.im by_)))]) (objs := []) rfl (by simp) rfl (by repeat' first | exact trivial | refine ⟨?_, ?_⟩) ⟨rfl, trivial, trivial⟩) ?_
  refine aw_ret ?_
  have hr := Option.some.inj h
  subst hr
  exact ret_objs (.inr rfl) [] (objs' := []) (new := []) rfl (by simp) (by simp) rfl (by repeat' first | exact trivial | refine ⟨?_, ?_⟩) rfl rfl (by repeat' first | exact trivial | refine ⟨?_, ?_⟩) (fun _ => ⟨by simp [V.flat, V.flatA, V.flatC, D.flat], flat_nil⟩) ⟨rfl, rfl, rfl⟩
theorem impl_ScaleComplex_ok (n : Nat) (x_ : Cx) (by_ : Nat) {r : Cx} (h : m_impl_ScaleComplex n x_ by_ = some r) : ACall prog false 15 [.d (.cx .f32 x_.re x_.im), .d (.fl .f32 by_)] [] (fun v o new => v = .d (.cx .f32 r.re r.im) ∧ o = [] ∧ new = []) := impl_ScaleComplex_ok_fr0 false n x_ by_ h
theorem impl_ScaleComplex_ok_fr (n : Nat) (x_ : Cx) (by_ : Nat) {r : Cx} (h : m_impl_ScaleComplex n x_ by_ = some r) : ACall prog true 15 [.d (.cx .f32 x_.re x_.im), .d (.fl .f32 by_)] [] (fun v o new => v = .d (.cx .f32 r.re r.im) ∧ o = [] ∧ new = []) := impl_ScaleComplex_ok_fr0 true n x_ by_ h

def m_spec_l01DrawComplex (n : Nat) (s_ : SL00Src) : Option (Cx × SL00Src) :=
  (m_spec_l01DrawFloat n s_).bind fun x3 =>
  (m_spec_l01DrawFloat n x3.2).bind fun x4 =>
  some ((Cx.mk x3.1 x4.1), x4.2)
theorem spec_l01DrawComplex_ok (n : Nat) (s_ : SL00Src) {r : Cx × SL00Src} (h : m_spec_l01DrawComplex n s_ = some r) : ACall prog false 63 [.ptr 0 0] [.box [.d (.sl false (s_.code.map eIntu8)), .d (.int .i64 s_.at_), .d (.int .u64 s_.seed)]] (fun v o new => v = .d (.cx .f32 r.1.re r.1.im) ∧ o = [.box [.d (.sl false (r.2.code.map eIntu8)), .d (.int .i64 r.2.at_), .d (.int .u64 r.2.seed)]] ∧ new = []) := by
  refine acall_of_aw hτ func63 rfl (by simp) (by simp) ?_
  unfold m_spec_l01DrawComplex at h
  refine aw_seq ?_
  refine aw_region ?_
  refine awl_val hτ rfl rfl rfl ?_
  refine awl_nil ?_
  refine aw_seq ?_
  refine aw_region ?_
  refine awl_val hτ rfl rfl rfl ?_
  refine bnd_elim h fun x3 hx3 h => ?_
  refine awl_callP hτ false [0] rfl rfl rfl (enterOk func58 rfl rfl) rfl rfl (by simp) ⟨trivial, trivial⟩ (by repeat' first | exact trivial | refine ⟨?_, ?_⟩) (spec_l01DrawFloat_ok n s_ hx3) ?_
  rintro r0 o0 n0 ⟨rfl, rfl, rfl⟩ -
  refine awl_val hτ rfl rfl rfl ?_
  refine awl_nil ?_
  refine aw_seq ?_
  refine aw_region ?_
  refine awl_val hτ rfl rfl rfl ?_
  refine awl_val hτ rfl rfl rfl ?_
  refine bnd_elim h fun x4 hx4 h => ?_
  refine awl_callP hτ false [0] rfl rfl rfl (enterOk func58 rfl rfl) rfl rfl (by simp) ⟨trivial, trivial⟩ (by repeat' first | exact trivial | refine ⟨?_, ?_⟩) (spec_l01DrawFloat_ok n x3.2 hx4) ?_
  rintro r0 o0 n0 ⟨rfl, rfl, rfl⟩ -
  refine awl_val hτ rfl rfl rfl ?_
  refine awl_val hτ rfl rfl rfl ?_
  refine awl_nil ?_
  refine aw_weak (weak_ofP [0] (l := [(2, .d (.cx .f32 x3.1 x4.1))]) (objs := [.box [.d (.sl false (x4.2.code.map eIntu8)), .d (.int .i64 x4.2.at_), .d (.int .u64 x4.2.seed)]]) rfl (by simp) rfl (by repeat' first | exact trivial | refine ⟨?_, ?_⟩) ⟨rfl, trivial, trivial⟩) ?_
  refine aw_ret ?_
  have hr := Option.some.inj h
  subst hr
  exact ret_objs (.inr rfl) [] (objs' := [.box [.d (.sl false (x4.2.code.map eIntu8)), .d (.int .i64 x4.2.at_), .d (.int .u64 x4.2.seed)]]) (new := []) rfl (by simp) (by simp) rfl (by repeat' first | exact trivial | refine ⟨?_, ?_⟩) rfl rfl (by repeat' first | exact trivial | refine ⟨?_, ?_⟩) (fun h => nomatch h) ⟨rfl, rfl, rfl⟩

def m_spec_l01DrawFine (n : Nat) (s_ : SL00Src) : Option (Cx × SL00Src) :=
  (m_spec_l00Src_pick n s_ (65 : Int)).bind fun x3 =>
  (m_spec_l00Src_pick n x3.2 (65 : Int)).bind fun x4 =>
  some ((Cx.mk (farith .quo .f32 (FloatKind.nearest .f32 (w64 (x3.1 - (32 : Int)))) (1098907648 : Nat)) (farith .quo .f32 (FloatKind.nearest .f32 (w64 (x4.1 - (32 : Int)))) (1098907648 : Nat))), x4.2)
theorem spec_l01DrawFine_ok (n : Nat) (s_ : SL00Src) {r : Cx × SL00Src} (h : m_spec_l01DrawFine n s_ = some r) : ACall prog false 64 [.ptr 0 0] [.box [.d (.sl false (s_.code.map eIntu8)), .d (.int .i64 s_.at_), .d (.int .u64 s_.seed)]] (fun v o new => v = .d (.cx .f32 r.1.re r.1.im) ∧ o = [.box [.d (.sl false (r.2.code.map eIntu8)), .d (.int .i64 r.2.at_), .d (.int .u64 r.2.seed)]] ∧ new = []) := by
  refine acall_of_aw hτ func64 rfl (by simp) (by simp) ?_
  unfold m_spec_l01DrawFine at h
  refine aw_seq ?_
  refine aw_region ?_
  refine awl_val hτ rfl rfl rfl ?_
  refine awl_nil ?_
  refine aw_seq ?_
  refine aw_region ?_
  refine awl_val hτ rfl rfl rfl ?_
  refine bnd_elim h fun x3 hx3 h => ?_
  refine awl_callP hτ false [0] rfl rfl rfl (enterOk func44 rfl rfl) rfl rfl (by simp) ⟨trivial, trivial, trivial⟩ (by repeat' first | exact trivial | refine ⟨?_, ?_⟩) (spec_l00Src_pick_ok n s_ (65 : Int) hx3) ?_
  rintro r0 o0 n0 ⟨rfl, rfl, rfl⟩ -
  refine awl_val hτ rfl rfl rfl ?_
  refine awl_val hτ rfl rfl rfl ?_
  refine awl_val hτ rfl rfl rfl ?_
  refine awl_val hτ rfl rfl rfl ?_
  refine awl_nil ?_
  refine aw_seq ?_
  refine aw_weak (weak_ofP [0] (l := [(0, .ptr 0 0), (3, .d (.fl .f32 (farith .quo .f32 (FloatKind.nearest .f32 (w64 (x3.1 - (32 : Int)))) (1098907648 : Nat))))]) (objs := [.box [.d (.sl false (x3.2.code.map eIntu8)), .d (.int .i64 x3.2.at_), .d (.int .u64 x3.2.seed)]]) rfl (by simp) rfl (by repeat' first | exact trivial | refine ⟨?_, ?_⟩) ⟨rfl, trivial, rfl, trivial, trivial⟩) ?_
  refine aw_region ?_
  refine awl_val hτ rfl rfl rfl ?_
  refine awl_val hτ rfl rfl rfl ?_
  refine bnd_elim h fun x4 hx4 h => ?_
  refine awl_callP hτ false [0] rfl rfl rfl (enterOk func44 rfl rfl) rfl rfl (by simp) ⟨trivial, trivial, trivial⟩ (by repeat' first | exact trivial | refine ⟨?_, ?_⟩) (spec_l00Src_pick_ok n x3.2 (65 : Int) hx4) ?_
  rintro r0 o0 n0 ⟨rfl, rfl, rfl⟩ -
  refine awl_val hτ rfl rfl rfl ?_
  refine awl_val hτ rfl rfl rfl ?_
  refine awl_val hτ rfl rfl rfl ?_
  refine awl_val hτ rfl rfl rfl ?_
  refine awl_val hτ rfl rfl rfl ?_
  refine awl_nil ?_
  refine aw_weak (weak_ofP [0] (l := [(2, .d (.cx .f32 (farith .quo .f32 (FloatKind.nearest .f32 (w64 (x3.1 - (32 : Int)))) (1098907648 : Nat)) (farith .quo .f32 (FloatKind.nearest .f32 (w64 (x4.1 - (32 : Int)))) (1098907648 : Nat))))]) (objs := [.box [.d (.sl false (x4.2.code.map eIntu8)), .d (.int .i64 x4.2.at_), .d (.int .u64 x4.2.seed)]]) rfl (by simp) rfl (by repeat' first | exact trivial | refine ⟨?_, ?_⟩) ⟨rfl, trivial, trivial⟩) ?_
  refine aw_ret ?_
  have hr := Option.some.inj h
  subst hr
  exact ret_objs (.inr rfl) [] (objs' := [.box [.d (.sl false (x4.2.code.map eIntu8)), .d (.int .i64 x4.2.at_), .d (.int .u64 x4.2.seed)]]) (new := []) rfl (by simp) (by simp) rfl (by repeat' first | exact trivial | refine ⟨?_, ?_⟩) rfl rfl (by repeat' first | exact trivial | refine ⟨?_, ?_⟩) (fun h => nomatch h) ⟨rfl, rfl, rfl⟩

def m_spec_l01DrawComplexes_j2 (n : Nat) (k56 : List Int → Int → Int → Int → List Cx → Option (List Cx × SL00Src)) (v40 : Int) (v66 : List Int) (v67 : Int) (v68 : Int) (v69 : List Cx) : Option (List Cx × SL00Src) :=
  k56 v66 v67 v68 (w64 (v40 - (1 : Int))) v69
def m_spec_l01DrawComplexes_l1 (n : Nat) (x28 : Bool × SL00Src) : Nat → List Int → Int → Int → Int → List Cx → Option (List Cx × SL00Src)
  | 0, _, _, _, _, _ => none
  | m55 + 1, v37, v38, v39, v40, v41 =>
    if v40 > (0 : Int) then
      if x28.1 = true then
        (m_spec_l01DrawComplex n (SL00Src.mk v37 v38 v39)).bind fun x72 =>
        grd (room (v41.length + 1) 8) <|
        m_spec_l01DrawComplexes_j2 n (m_spec_l01DrawComplexes_l1 n x28 m55) v40 x72.2.code x72.2.at_ x72.2.seed (v41 ++ [x72.1])
      else
        (m_spec_l01DrawFine n (SL00Src.mk v37 v38 v39)).bind fun x74 =>
        grd (room (v41.length + 1) 8) <|
        m_spec_l01DrawComplexes_j2 n (m_spec_l01DrawComplexes_l1 n x28 m55) v40 x74.2.code x74.2.at_ x74.2.seed (v41 ++ [x74.1])
    else
      some (v41, (SL00Src.mk v37 v38 v39))
def m_spec_l01DrawComplexes (n : Nat) (s_ : SL00Src) (n_ : Int) : Option (List Cx × SL00Src) :=
  (m_spec_l00Src_one n s_ (5 : Int)).bind fun x28 =>
  m_spec_l01DrawComplexes_l1 n x28 n x28.2.code x28.2.at_ x28.2.seed n_ ([] : List Cx)
theorem spec_l01DrawComplexes_ok (n : Nat) (s_ : SL00Src) (n_ : Int) {r : List Cx × SL00Src} (h : m_spec_l01DrawComplexes n s_ n_ = some r) : ACall prog false 50 [.ptr 0 0, .d (.int .i64 n_)] [.box [.d (.sl false (s_.code.map eIntu8)), .d (.int .i64 s_.at_), .d (.int .u64 s_.seed)]] (fun v o new => v = .row 1 r.1.length 0 r.1.length ∧ o = [.box [.d (.sl false (r.2.code.map eIntu8)), .d (.int .i64 r.2.at_), .d (.int .u64 r.2.seed)]] ∧ new = [.row 1 (r.1.map eCxf32)]) := by
  refine acall_of_aw hτ func50 rfl (by simp) (by simp) ?_
  unfold m_spec_l01DrawComplexes at h
  refine aw_seq ?_
  refine aw_region ?_
  refine awl_val hτ rfl rfl rfl ?_
  refine awl_nil ?_
  refine aw_seq ?_
  refine aw_region ?_
  refine awl_valH hτ rfl rfl rfl ?_
  refine awl_val hτ rfl rfl rfl ?_
  refine awl_nil ?_
  refine aw_seq ?_
  refine aw_region ?_
  refine awl_val hτ rfl rfl rfl ?_
  refine bnd_elim h fun x28 hx28 h => ?_
  refine awl_callP hτ false [0] rfl rfl rfl (enterOk func56 rfl rfl) rfl rfl (by simp) ⟨trivial, trivial, trivial⟩ (by repeat' first | exact trivial | refine ⟨?_, ?_⟩) (spec_l00Src_one_ok n s_ (5 : Int) hx28) ?_
  rintro r0 o0 n0 ⟨rfl, rfl, rfl⟩ -
  refine awl_val hτ rfl rfl rfl ?_
  refine awl_nil ?_
  refine aw_seq ?_
  refine aw_block ?_
  refine aw_loop (ι := Nat × List Int × Int × Int × Int × List Cx) (fun (m55, v37, v38, v39, v40, v41) => St.of [(0, .ptr 0 0), (1, .d (.int .i64 v40)), (5, .row 1 v41.length 0 v41.length), (6, .d (.bool x28.1))] [.box [.d (.sl false (v37.map eIntu8)), .d (.int .i64 v38), .d (.int .u64 v39)], .row 1 (v41.map eCxf32)] f50.ntmps 1) (fun (m55, v37, v38, v39, v40, v41) => m_spec_l01DrawComplexes_l1 n x28 m55 v37 v38 v39 v40 v41 = some r) (fun x => x.1) (n, x28.2.code, x28.2.at_, x28.2.seed, n_, ([] : List Cx)) h (weak_ofP [0, 1] (l := [(0, .ptr 0 0), (1, .d (.int .i64 n_)), (5, .row 1 (([] : List Cx).length) 0 (([] : List Cx).length)), (6, .d (.bool x28.1))]) (objs := [.box [.d (.sl false (x28.2.code.map eIntu8)), .d (.int .i64 x28.2.at_), .d (.int .u64 x28.2.seed)], .row 1 (([] : List Cx).map eCxf32)]) rfl (by simp) rfl (by repeat' first | exact trivial | refine ⟨?_, ?_⟩) ⟨rfl, trivial, rfl, trivial, rfl, trivial, rfl, trivial, trivial⟩) ?_
  rintro ⟨m55, v37, v38, v39, v40, v41⟩ h
  replace h : m_spec_l01DrawComplexes_l1 n x28 m55 v37 v38 v39 v40 v41 = some r := h
  rcases m55 with _ | m55
  · rw [m_spec_l01DrawComplexes_l1] at h; cases h
  rw [m_spec_l01DrawComplexes_l1] at h
  refine aw_seq ?_
  refine aw_seq ?_
  refine aw_region ?_
  refine awl_val hτ rfl rfl rfl ?_
  refine awl_val hτ rfl rfl rfl ?_
  refine awl_nil ?_
  refine aw_cond rfl (fun hc57 => ?_) (fun hc57 => ?_)
  · have h := if_t h hc57
    refine aw_skip ?_
    refine aw_hk1 (ι := List Int × Int × Int × List Cx) (fun (v66, v67, v68, v69) => St.of [(0, .ptr 0 0), (1, .d (.int .i64 v40)), (5, .row 1 v69.length 0 v69.length), (6, .d (.bool x28.1))] [.box [.d (.sl false (v66.map eIntu8)), .d (.int .i64 v67), .d (.int .u64 v68)], .row 1 (v69.map eCxf32)] f50.ntmps 1) (fun (v66, v67, v68, v69) => m_spec_l01DrawComplexes_j2 n (m_spec_l01DrawComplexes_l1 n x28 m55) v40 v66 v67 v68 v69 = some r) ?_ (fun hk70 => ?_)
    · rintro ⟨v66, v67, v68, v69⟩ h
      replace h : m_spec_l01DrawComplexes_j2 n (m_spec_l01DrawComplexes_l1 n x28 m55) v40 v66 v67 v68 v69 = some r := h
      unfold m_spec_l01DrawComplexes_j2 at h
      refine aw_region ?_
      refine awl_val hτ rfl rfl rfl ?_
      refine awl_val hτ rfl rfl rfl ?_
      refine awl_val hτ rfl rfl rfl ?_
      refine awl_nil ?_
      exact ⟨(m55, v66, v67, v68, (w64 (v40 - (1 : Int))), v69), h, Nat.lt_succ_self m55, (weak_ofP [0, 1] (l := [(0, .ptr 0 0), (1, .d (.int .i64 (w64 (v40 - (1 : Int))))), (5, .row 1 v69.length 0 v69.length), (6, .d (.bool x28.1))]) (objs := [.box [.d (.sl false (v66.map eIntu8)), .d (.int .i64 v67), .d (.int .u64 v68)], .row 1 (v69.map eCxf32)]) rfl (by simp) rfl (by repeat' first | exact trivial | refine ⟨?_, ?_⟩) ⟨rfl, trivial, rfl, trivial, rfl, trivial, rfl, trivial, trivial⟩)⟩
    · refine aw_seq ?_
      refine aw_block ?_
      refine aw_seq ?_
      refine aw_region ?_
      refine awl_val hτ rfl rfl rfl ?_
      refine awl_nil ?_
      refine aw_cond rfl (fun hc71 => ?_) (fun hc71 => ?_)
      · have h := if_bt h hc71
        refine aw_region ?_
        refine awl_val hτ rfl rfl rfl ?_
        refine awl_val hτ rfl rfl rfl ?_
        refine bnd_elim h fun x72 hx72 h => ?_
        refine awl_callP hτ false [0] rfl rfl rfl (enterOk func63 rfl rfl) rfl rfl (by simp) ⟨trivial, trivial⟩ (by repeat' first | exact trivial | refine ⟨?_, ?_⟩) (spec_l01DrawComplex_ok n (SL00Src.mk v37 v38 v39) hx72) ?_
        rintro r0 o0 n0 ⟨rfl, rfl, rfl⟩ -
        refine awl_valH hτ rfl rfl rfl ?_
        refine grd_elim h fun hg73 h => ?_
        refine awl_needH hτ rfl rfl (Eq.trans rfl (or_append (f := eCxf32) v41 [x72.1] rfl)) ⟨⟨rfl, Nat.le_of_ble_eq_true rfl⟩, len_map _, rfl, rfl, hg73, by decide, (all1 rfl)⟩ ?_
        refine awl_val hτ rfl rfl rfl ?_
        refine awl_nil ?_
        refine aw_weak (weak_ofP [0, 1] (l := [(0, .ptr 0 0), (1, .d (.int .i64 v40)), (5, .row 1 ((v41 ++ [x72.1]).length) 0 ((v41 ++ [x72.1]).length)), (6, .d (.bool x28.1))]) (objs := [.box [.d (.sl false (x72.2.code.map eIntu8)), .d (.int .i64 x72.2.at_), .d (.int .u64 x72.2.seed)], .row 1 ((v41 ++ [x72.1]).map eCxf32)]) rfl (by simp) rfl (by repeat' first | exact trivial | refine ⟨?_, ?_⟩) ⟨rfl, trivial, rfl, trivial, rfl, trivial, rfl, trivial, trivial⟩) ?_
        exact hk70 (x72.2.code, x72.2.at_, x72.2.seed, (v41 ++ [x72.1])) h
      · have h := if_bf h hc71
        refine aw_region ?_
        refine awl_val hτ rfl rfl rfl ?_
        refine awl_val hτ rfl rfl rfl ?_
        refine bnd_elim h fun x74 hx74 h => ?_
        refine awl_callP hτ false [0] rfl rfl rfl (enterOk func64 rfl rfl) rfl rfl (by simp) ⟨trivial, trivial⟩ (by repeat' first | exact trivial | refine ⟨?_, ?_⟩) (spec_l01DrawFine_ok n (SL00Src.mk v37 v38 v39) hx74) ?_
        rintro r0 o0 n0 ⟨rfl, rfl, rfl⟩ -
        refine awl_valH hτ rfl rfl rfl ?_
        refine grd_elim h fun hg75 h => ?_
        refine awl_needH hτ rfl rfl (Eq.trans rfl (or_append (f := eCxf32) v41 [x74.1] rfl)) ⟨⟨rfl, Nat.le_of_ble_eq_true rfl⟩, len_map _, rfl, rfl, hg75, by decide, (all1 rfl)⟩ ?_
        refine awl_val hτ rfl rfl rfl ?_
        refine awl_nil ?_
        refine aw_weak (weak_ofP [0, 1] (l := [(0, .ptr 0 0), (1, .d (.int .i64 v40)), (5, .row 1 ((v41 ++ [x74.1]).length) 0 ((v41 ++ [x74.1]).length)), (6, .d (.bool x28.1))]) (objs := [.box [.d (.sl false (x74.2.code.map eIntu8)), .d (.int .i64 x74.2.at_), .d (.int .u64 x74.2.seed)], .row 1 ((v41 ++ [x74.1]).map eCxf32)]) rfl (by simp) rfl (by repeat' first | exact trivial | refine ⟨?_, ?_⟩) ⟨rfl, trivial, rfl, trivial, rfl, trivial, rfl, trivial, trivial⟩) ?_
        exact hk70 (x74.2.code, x74.2.at_, x74.2.seed, (v41 ++ [x74.1])) h
  · have h := if_f h hc57
    refine aw_exit ?_
    refine aw_seq ?_
    refine aw_region ?_
    refine awl_val hτ rfl rfl rfl ?_
    refine awl_val hτ rfl rfl rfl ?_
    refine awl_nil ?_
    refine aw_weak (weak_ofP [0, 1] (l := [(4, .row 1 v41.length 0 v41.length)]) (objs := [.box [.d (.sl false (v37.map eIntu8)), .d (.int .i64 v38), .d (.int .u64 v39)], .row 1 (v41.map eCxf32)]) rfl (by simp) rfl (by repeat' first | exact trivial | refine ⟨?_, ?_⟩) ⟨rfl, trivial, trivial⟩) ?_
    refine aw_ret ?_
    have hr := Option.some.inj h
    subst hr
    exact ret_objs (.inr rfl) [1] (objs' := [.box [.d (.sl false (v37.map eIntu8)), .d (.int .i64 v38), .d (.int .u64 v39)]]) (new := [.row 1 (v41.map eCxf32)]) rfl (by simp) (by simp) rfl (by repeat' first | exact trivial | refine ⟨?_, ?_⟩) rfl rfl (by repeat' first | exact trivial | refine ⟨?_, ?_⟩) (fun h => nomatch h) ⟨rfl, rfl, rfl⟩

def m_spec_B10Any (n : Nat) (code_ : List Int) (n_ : Int) : Option (List Cx) :=
  (m_spec_l00From n code_).bind fun x3 =>
  (m_spec_l01DrawComplexes n x3 n_).bind fun x4 =>
  some x4.1
theorem spec_B10Any_ok_fr0 (fr : Bool) (n : Nat) (code_ : List Int) (n_ : Int) {r : List Cx} (h : m_spec_B10Any n code_ n_ = some r) : ACall prog fr 16 [.d (.sl false (code_.map eIntu8)), .d (.int .i64 n_)] [] (fun v o new => v = .row 0 r.length 0 r.length ∧ o = [] ∧ new = [.row 1 (r.map eCxf32)]) := by
  refine acall_of_aw hτ func16 rfl (by simp) (by simp) ?_
  unfold m_spec_B10Any at h
  refine aw_seq ?_
  refine aw_region ?_
  refine awl_val hτ rfl rfl rfl ?_
  refine awl_nil ?_
  refine aw_seq ?_
  refine aw_region ?_
  refine awl_val hτ rfl rfl rfl ?_
  refine bnd_elim h fun x3 hx3 h => ?_
  refine awl_callP hτ false [] rfl rfl rfl (enterOk func43 rfl rfl) rfl rfl (by simp) ⟨trivial, trivial⟩ (by repeat' first | exact trivial | refine ⟨?_, ?_⟩) (spec_l00From_ok n code_ hx3) ?_
  rintro r0 o0 n0 ⟨rfl, rfl, rfl⟩ -
  refine awl_val hτ rfl rfl rfl ?_
  refine awl_nil ?_
  refine aw_seq ?_
  refine aw_region ?_
  refine awl_val hτ rfl rfl rfl ?_
  refine awl_val hτ rfl rfl rfl ?_
  refine bnd_elim h fun x4 hx4 h => ?_
  refine awl_callP hτ false [0] rfl rfl rfl (enterOk func50 rfl rfl) rfl rfl (by simp) ⟨trivial, trivial, trivial⟩ (by repeat' first | exact trivial | refine ⟨?_, ?_⟩) (spec_l01DrawComplexes_ok n x3 n_ hx4) ?_
  rintro r0 o0 n0 ⟨rfl, rfl, rfl⟩ -
  refine awl_val hτ rfl rfl rfl ?_
  refine awl_nil ?_
  refine aw_weak (weak_ofP [1] (l := [(4, .row 0 x4.1.length 0 x4.1.length)]) (objs := [.row 1 (x4.1.map eCxf32)]) rfl (by simp) rfl (by repeat' first | exact trivial | refine ⟨?_, ?_⟩) ⟨rfl, trivial, trivial⟩) ?_
  refine aw_ret ?_
  have hr := Option.some.inj h
  subst hr
  exact ret_objs (.inr rfl) [0] (objs' := []) (new := [.row 1 (x4.1.map eCxf32)]) rfl (by simp) (by simp) rfl (by repeat' first | exact trivial | refine ⟨?_, ?_⟩) rfl rfl (by repeat' first | exact trivial | refine ⟨?_, ?_⟩) (fun _ => ⟨by simp [V.flat, V.flatA, V.flatC, D.flat], (flat_cons (flat_row eCxf32_flat _) flat_nil)⟩) ⟨rfl, rfl, rfl⟩
theorem spec_B10Any_ok (n : Nat) (code_ : List Int) (n_ : Int) {r : List Cx} (h : m_spec_B10Any n code_ n_ = some r) : ACall prog false 16 [.d (.sl false (code_.map eIntu8)), .d (.int .i64 n_)] [] (fun v o new => v = .row 0 r.length 0 r.length ∧ o = [] ∧ new = [.row 1 (r.map eCxf32)]) := spec_B10Any_ok_fr0 false n code_ n_ h
theorem spec_B10Any_ok_fr (n : Nat) (code_ : List Int) (n_ : Int) {r : List Cx} (h : m_spec_B10Any n code_ n_ = some r) : ACall prog true 16 [.d (.sl false (code_.map eIntu8)), .d (.int .i64 n_)] [] (fun v o new => v = .row 0 r.length 0 r.length ∧ o = [] ∧ new = [.row 1 (r.map eCxf32)]) := spec_B10Any_ok_fr0 true n code_ n_ h

def m_impl_complexOk (n : Nat) (list_ : List Cx) : Option Bool :=
  some (decide ((list_.length : Int) ≤ (256 : Int)))
theorem impl_complexOk_ok_fr0 (fr : Bool) (n : Nat) (list_ : List Cx) {r : Bool} (h : m_impl_complexOk n list_ = some r) : ACall prog fr 51 [.d (.sl false (list_.map eCxf32))] [] (fun v o new => v = .d (.bool r) ∧ o = [] ∧ new = []) := by
  refine acall_of_aw hτ func51 rfl (by simp) (by simp) ?_
  unfold m_impl_complexOk at h
  refine aw_seq ?_
  refine aw_region ?_
  refine awl_val hτ rfl rfl rfl ?_
  refine awl_nil ?_
  refine aw_seq ?_
  refine aw_region ?_
  refine awl_val hτ rfl rfl rfl ?_
  refine awl_val hτ (v := .d (.int .i64 (list_.length : Int))) rfl rfl (Eq.trans rfl (or_len (f := eCxf32) list_)) ?_
  refine awl_val hτ rfl rfl rfl ?_
  refine awl_val hτ rfl rfl rfl ?_
  refine awl_nil ?_
  refine aw_weak (weak_ofP [] (l := [(2, .d (.bool (decide ((list_.length : Int) ≤ (256 : Int)))))]) (objs := []) rfl (by simp) rfl (by repeat' first | exact trivial | refine ⟨?_, ?_⟩) ⟨rfl, trivial, trivial⟩) ?_
  refine aw_ret ?_
  have hr := Option.some.inj h
  subst hr
  exact ret_objs (.inr rfl) [] (objs' := []) (new := []) rfl (by simp) (by simp) rfl (by repeat' first | exact trivial | refine ⟨?_, ?_⟩) rfl rfl (by repeat' first | exact trivial | refine ⟨?_, ?_⟩) (fun _ => ⟨by simp [V.flat, V.flatA, V.flatC, D.flat], flat_nil⟩) ⟨rfl, rfl, rfl⟩
theorem impl_complexOk_ok (n : Nat) (list_ : List Cx) {r : Bool} (h : m_impl_complexOk n list_ = some r) : ACall prog false 51 [.d (.sl false (list_.map eCxf32))] [] (fun v o new => v = .d (.bool r) ∧ o = [] ∧ new = []) := impl_complexOk_ok_fr0 false n list_ h
theorem impl_complexOk_ok_fr (n : Nat) (list_ : List Cx) {r : Bool} (h : m_impl_complexOk n list_ = some r) : ACall prog true 51 [.d (.sl false (list_.map eCxf32))] [] (fun v o new => v = .d (.bool r) ∧ o = [] ∧ new = []) := impl_complexOk_ok_fr0 true n list_ h

def m_impl_ComplexText_j1 (n : Nat) (v34 : List Str) : Option (Str × Bool) :=
  (m_impl_joined n v34).bind fun x35 =>
  some (x35, true)
def m_impl_ComplexText_l2 (n : Nat) (list_ : List Cx) : Nat → List Str → Int → Option (Str × Bool)
  | 0, _, _ => none
  | m51 + 1, v42, v43 =>
    if v43 < (list_.length : Int) then
      (getI list_ v43).bind fun x54 =>
      (m_impl_hexText n x54.re).bind fun x55 =>
      (m_impl_hexText n x54.im).bind fun x56 =>
      grd (x55.length + x56.length ≤ 9223372036854775807) <|
      grd (room (v42.length + 1) 16) <|
      (m_impl_ComplexText_l2 n list_ m51) (v42 ++ [(x55 ++ x56)]) (w64 (v43 + (1 : Int)))
    else
      m_impl_ComplexText_j1 n v42
def m_impl_ComplexText (n : Nat) (list_ : List Cx) : Option (Str × Bool) :=
  (m_impl_complexOk n list_).bind fun x18 =>
  if x18 = true then
    m_impl_ComplexText_l2 n list_ n ([] : List Str) (0 : Int)
  else
    some (([] : Str), false)
theorem impl_ComplexText_ok_fr0 (fr : Bool) (n : Nat) (list_ : List Cx) {r : Str × Bool} (h : m_impl_ComplexText n list_ = some r) : ACall prog fr 18 [.d (.sl false (list_.map eCxf32))] [] (fun v o new => v = .tup [.d (.str (bstr r.1)), .d (.bool r.2)] ∧ o = [] ∧ new = []) := by
  refine acall_of_aw hτ func18 rfl (by simp) (by simp) ?_
  unfold m_impl_ComplexText at h
  refine aw_seq ?_
  refine aw_region ?_
  refine awl_val hτ rfl rfl rfl ?_
  refine awl_val hτ rfl rfl rfl ?_
  refine awl_nil ?_
  refine aw_seq ?_
  refine aw_seq ?_
  refine aw_region ?_
  refine awl_val hτ rfl rfl rfl ?_
  refine bnd_elim h fun x18 hx18 h => ?_
  refine awl_callP hτ false [] rfl rfl rfl (enterOk func51 rfl rfl) rfl rfl (by simp) ⟨trivial, trivial⟩ (by repeat' first | exact trivial | refine ⟨?_, ?_⟩) (impl_complexOk_ok n list_ hx18) ?_
  rintro r0 o0 n0 ⟨rfl, rfl, rfl⟩ -
  refine awl_val hτ rfl rfl rfl ?_
  refine awl_nil ?_
  refine aw_cond rfl (fun hc19 => ?_) (fun hc19 => ?_)
  · have hc19 := not_t hc19
    have h := if_bf h hc19
    refine aw_seq ?_
    refine aw_region ?_
    refine awl_val hτ rfl rfl rfl ?_
    refine awl_val hτ rfl rfl rfl ?_
    refine awl_nil ?_
    refine aw_weak (weak_ofP [] (l := [(2, .d (.str (bstr ([] : Str)))), (3, .d (.bool false))]) (objs := []) rfl (by simp) rfl (by repeat' first | exact trivial | refine ⟨?_, ?_⟩) ⟨rfl, trivial, rfl, trivial, trivial⟩) ?_
    refine aw_ret ?_
    have hr := Option.some.inj h
    subst hr
    exact ret_objs (.inr rfl) [] (objs' := []) (new := []) rfl (by simp) (by simp) rfl (by repeat' first | exact trivial | refine ⟨?_, ?_⟩) rfl rfl (by repeat' first | exact trivial | refine ⟨?_, ?_⟩) (fun _ => ⟨by simp [V.flat, V.flatA, V.flatC, D.flat], flat_nil⟩) ⟨rfl, rfl, rfl⟩
  · have hc19 := not_f hc19
    have h := if_bt h hc19
    refine aw_skip ?_
    refine aw_seq ?_
    refine aw_region ?_
    refine awl_valH hτ rfl rfl rfl ?_
    refine awl_val hτ rfl rfl rfl ?_
    refine awl_nil ?_
    refine aw_hk1 (ι := List Str) (fun v34 => St.of [(4, .row 0 v34.length 0 v34.length)] [.row 1 (v34.map eStr)] f18.ntmps 0) (fun v34 => m_impl_ComplexText_j1 n v34 = some r) ?_ (fun hk36 => ?_)
    · rintro v34 h
      replace h : m_impl_ComplexText_j1 n v34 = some r := h
      unfold m_impl_ComplexText_j1 at h
      refine aw_seq ?_
      refine aw_region ?_
      refine awl_val hτ rfl rfl rfl ?_
      refine awl_weak (weak_ofP [0] (l := [(28, .row 0 v34.length 0 v34.length)]) (objs := [.row 1 (v34.map eStr)]) rfl (by simp) rfl (by repeat' first | exact trivial | refine ⟨?_, ?_⟩) ⟨rfl, trivial, trivial⟩) ?_
      refine bnd_elim h fun x35 hx35 h => ?_
      refine awl_callP hτ true [] rfl rfl rfl (enterOk func53 rfl rfl) (mapO_cons (exV_view (f := eStr) v34 rfl rfl rfl) mapO_nil) rfl (by simp) ⟨(exVP_view (f := eStr) v34 rfl rfl rfl), trivial⟩ (by repeat' first | exact trivial | refine ⟨?_, ?_⟩) (impl_joined_ok_fr n v34 hx35) ?_
      rintro r0 o0 n0 ⟨rfl, rfl, rfl⟩ -
      refine awl_val hτ rfl rfl rfl ?_
      refine awl_val hτ rfl rfl rfl ?_
      refine awl_nil ?_
      refine aw_weak (weak_ofP [] (l := [(2, .d (.str (bstr x35))), (3, .d (.bool true))]) (objs := []) rfl (by simp) rfl (by repeat' first | exact trivial | refine ⟨?_, ?_⟩) ⟨rfl, trivial, rfl, trivial, trivial⟩) ?_
      refine aw_ret ?_
      have hr := Option.some.inj h
      subst hr
      exact ret_objs (.inr rfl) [] (objs' := []) (new := []) rfl (by simp) (by simp) rfl (by repeat' first | exact trivial | refine ⟨?_, ?_⟩) rfl rfl (by repeat' first | exact trivial | refine ⟨?_, ?_⟩) (fun _ => ⟨by simp [V.flat, V.flatA, V.flatC, D.flat], flat_nil⟩) ⟨rfl, rfl, rfl⟩
    · refine aw_seq ?_
      refine aw_seq ?_
      refine aw_weak (weak_ofP [0] (l := [(0, .d (.sl false (list_.map eCxf32))), (4, .row 0 (([] : List Str).length) 0 (([] : List Str).length))]) (objs := [.row 1 (([] : List Str).map eStr)]) rfl (by simp) rfl (by repeat' first | exact trivial | refine ⟨?_, ?_⟩) ⟨rfl, trivial, rfl, trivial, trivial⟩) ?_
      refine aw_region ?_
      refine awl_val hτ rfl rfl rfl ?_
      refine awl_val hτ (v := .d (.int .i64 (list_.length : Int))) rfl rfl (Eq.trans rfl (or_len (f := eCxf32) list_)) ?_
      refine awl_val hτ rfl rfl rfl ?_
      refine awl_nil ?_
      refine aw_block ?_
      refine aw_loop (ι := Nat × List Str × Int) (fun (m51, v42, v43) => St.of [(4, .row 0 v42.length 0 v42.length), (11, .d (.sl false (list_.map eCxf32))), (12, .d (.int .i64 (list_.length : Int))), (13, .d (.int .i64 v43))] [.row 1 (v42.map eStr)] f18.ntmps 0) (fun (m51, v42, v43) => m_impl_ComplexText_l2 n list_ m51 v42 v43 = some r) (fun x => x.1) (n, ([] : List Str), (0 : Int)) h (weak_ofP [0] (l := [(4, .row 0 (([] : List Str).length) 0 (([] : List Str).length)), (11, .d (.sl false (list_.map eCxf32))), (12, .d (.int .i64 (list_.length : Int))), (13, .d (.int .i64 (0 : Int)))]) (objs := [.row 1 (([] : List Str).map eStr)]) rfl (by simp) rfl (by repeat' first | exact trivial | refine ⟨?_, ?_⟩) ⟨rfl, trivial, rfl, trivial, rfl, trivial, rfl, trivial, trivial⟩) ?_
      rintro ⟨m51, v42, v43⟩ h
      replace h : m_impl_ComplexText_l2 n list_ m51 v42 v43 = some r := h
      rcases m51 with _ | m51
      · rw [m_impl_ComplexText_l2] at h; cases h
      rw [m_impl_ComplexText_l2] at h
      refine aw_seq ?_
      refine aw_region ?_
      refine awl_val hτ rfl rfl rfl ?_
      refine awl_nil ?_
      refine aw_seq ?_
      refine aw_cond rfl (fun hc53 => ?_) (fun hc53 => ?_)
      · have h := if_t h hc53
        refine aw_skip ?_
        refine aw_seq ?_
        refine aw_block ?_
        refine aw_seq ?_
        refine aw_region ?_
        refine bnd_elim h fun x54 hx54 h => ?_
        refine awl_elem hτ rfl rfl rfl (getI_some hx54).1 (map_getI hx54) rfl ?_
        refine awl_val hτ rfl rfl rfl ?_
        refine awl_val hτ rfl rfl rfl ?_
        refine awl_nil ?_
        refine aw_region ?_
        refine awl_val hτ rfl rfl rfl ?_
        refine awl_val hτ rfl rfl rfl ?_
        refine awl_val hτ rfl rfl rfl ?_
        refine bnd_elim h fun x55 hx55 h => ?_
        refine awl_callP hτ false [] rfl rfl rfl (enterOk func52 rfl rfl) rfl rfl (by simp) ⟨trivial, trivial⟩ (by repeat' first | exact trivial | refine ⟨?_, ?_⟩) (impl_hexText_ok n x54.re hx55) ?_
        rintro r0 o0 n0 ⟨rfl, rfl, rfl⟩ -
        refine awl_val hτ rfl rfl rfl ?_
        refine awl_val hτ rfl rfl rfl ?_
        refine bnd_elim h fun x56 hx56 h => ?_
        refine awl_callP hτ false [] rfl rfl rfl (enterOk func52 rfl rfl) rfl rfl (by simp) ⟨trivial, trivial⟩ (by repeat' first | exact trivial | refine ⟨?_, ?_⟩) (impl_hexText_ok n x54.im hx56) ?_
        rintro r0 o0 n0 ⟨rfl, rfl, rfl⟩ -
        refine grd_elim h fun hg57 h => ?_
        refine awl_need hτ (v := .d (.str (bstr (x55 ++ x56)))) rfl rfl (Eq.trans rfl (or_cat _ _)) hg57 ?_
        refine awl_weak (weak_ofP [0] (l := [(4, .row 0 v42.length 0 v42.length), (11, .d (.sl false (list_.map eCxf32))), (12, .d (.int .i64 (list_.length : Int))), (13, .d (.int .i64 v43)), (17, .row 0 v42.length 0 v42.length), (24, .d (.str (bstr (x55 ++ x56))))]) (objs := [.row 1 (v42.map eStr)]) rfl (by simp) rfl (by repeat' first | exact trivial | refine ⟨?_, ?_⟩) ⟨rfl, trivial, rfl, trivial, rfl, trivial, rfl, trivial, rfl, trivial, rfl, trivial, trivial⟩) ?_
        refine awl_valH hτ rfl rfl rfl ?_
        refine grd_elim h fun hg58 h => ?_
        refine awl_needH hτ rfl rfl (Eq.trans rfl (or_append (f := eStr) v42 [(x55 ++ x56)] rfl)) ⟨⟨rfl, Nat.le_of_ble_eq_true rfl⟩, len_map _, rfl, rfl, hg58, by decide, (all1 rfl)⟩ ?_
        refine awl_val hτ rfl rfl rfl ?_
        refine awl_nil ?_
        refine aw_region ?_
        refine awl_val hτ rfl rfl rfl ?_
        refine awl_val hτ rfl rfl rfl ?_
        refine awl_nil ?_
        exact ⟨(m51, (v42 ++ [(x55 ++ x56)]), (w64 (v43 + (1 : Int)))), h, Nat.lt_succ_self m51, (weak_ofP [0] (l := [(4, .row 0 ((v42 ++ [(x55 ++ x56)]).length) 0 ((v42 ++ [(x55 ++ x56)]).length)), (11, .d (.sl false (list_.map eCxf32))), (12, .d (.int .i64 (list_.length : Int))), (13, .d (.int .i64 (w64 (v43 + (1 : Int)))))]) (objs := [.row 1 ((v42 ++ [(x55 ++ x56)]).map eStr)]) rfl (by simp) rfl (by repeat' first | exact trivial | refine ⟨?_, ?_⟩) ⟨rfl, trivial, rfl, trivial, rfl, trivial, rfl, trivial, trivial⟩)⟩
      · have h := if_f h hc53
        refine aw_exit ?_
        refine aw_weak (weak_ofP [0] (l := [(4, .row 0 v42.length 0 v42.length)]) (objs := [.row 1 (v42.map eStr)]) rfl (by simp) rfl (by repeat' first | exact trivial | refine ⟨?_, ?_⟩) ⟨rfl, trivial, trivial⟩) ?_
        exact hk36 v42 h
theorem impl_ComplexText_ok (n : Nat) (list_ : List Cx) {r : Str × Bool} (h : m_impl_ComplexText n list_ = some r) : ACall prog false 18 [.d (.sl false (list_.map eCxf32))] [] (fun v o new => v = .tup [.d (.str (bstr r.1)), .d (.bool r.2)] ∧ o = [] ∧ new = []) := impl_ComplexText_ok_fr0 false n list_ h
theorem impl_ComplexText_ok_fr (n : Nat) (list_ : List Cx) {r : Str × Bool} (h : m_impl_ComplexText n list_ = some r) : ACall prog true 18 [.d (.sl false (list_.map eCxf32))] [] (fun v o new => v = .tup [.d (.str (bstr r.1)), .d (.bool r.2)] ∧ o = [] ∧ new = []) := impl_ComplexText_ok_fr0 true n list_ h

def m_impl_ReadComplex_j2 (n : Nat) (k52 : List Cx → Int → Option (List Cx × Bool)) (v38 : Int) (v64 : List Cx) : Option (List Cx × Bool) :=
  k52 v64 (w64 (v38 + (1 : Int)))
def m_impl_ReadComplex_j4 (n : Nat) (k52 : List Cx → Int → Option (List Cx × Bool)) (v37 : List Cx) (v38 : Int) (x70 : Nat × Bool) (x72 : Nat × Bool) : Option (List Cx × Bool) :=
  grd (room (v37.length + 1) 8) <|
  m_impl_ReadComplex_j2 n k52 v38 (v37 ++ [(Cx.mk x70.1 x72.1)])
def m_impl_ReadComplex_j5 (n : Nat) (k52 : List Cx → Int → Option (List Cx × Bool)) (v37 : List Cx) (v38 : Int) (x70 : Nat × Bool) (x72 : Nat × Bool) (v79 : Bool) : Option (List Cx × Bool) :=
  if v79 = true then
    some (([] : List Cx), false)
  else
    m_impl_ReadComplex_j4 n k52 v37 v38 x70 x72
def m_impl_ReadComplex_j3 (n : Nat) (k52 : List Cx → Int → Option (List Cx × Bool)) (v37 : List Cx) (v38 : Int) (x66 : Str) : Option (List Cx × Bool) :=
  grd (0 ≤ (0 : Int) ∧ (0 : Int) ≤ (8 : Int) ∧ (8 : Int) ≤ (x66.length : Int)) <|
  (m_impl_readNumber n (sub x66 (0 : Int) (8 : Int))).bind fun x70 =>
  grd (0 ≤ (8 : Int) ∧ (8 : Int) ≤ (x66.length : Int) ∧ (x66.length : Int) ≤ (x66.length : Int)) <|
  (m_impl_readNumber n (sub x66 (8 : Int) (x66.length : Int))).bind fun x72 =>
  if x70.2 = true then
    m_impl_ReadComplex_j5 n k52 v37 v38 x70 x72 (!x72.2)
  else
    m_impl_ReadComplex_j5 n k52 v37 v38 x70 x72 true
def m_impl_ReadComplex_j6 (n : Nat) (k52 : List Cx → Int → Option (List Cx × Bool)) (v37 : List Cx) (v38 : Int) (x66 : Str) (v86 : Bool) : Option (List Cx × Bool) :=
  if v86 = true then
    some (([] : List Cx), false)
  else
    m_impl_ReadComplex_j3 n k52 v37 v38 x66
def m_impl_ReadComplex_l1 (n : Nat) (x26 : List Str) : Nat → List Cx → Int → Option (List Cx × Bool)
  | 0, _, _ => none
  | m51 + 1, v37, v38 =>
    if v38 < (x26.length : Int) then
      (getI x26 v38).bind fun x66 =>
      if (x66.length : Int) = (16 : Int) then
        m_impl_ReadComplex_j6 n (m_impl_ReadComplex_l1 n x26 m51) v37 v38 x66 (decide ((v37.length : Int) = (256 : Int)))
      else
        m_impl_ReadComplex_j6 n (m_impl_ReadComplex_l1 n x26 m51) v37 v38 x66 true
    else
      some (v37, true)
def m_impl_ReadComplex (n : Nat) (s_ : Str) : Option (List Cx × Bool) :=
  (m_impl_parted n s_).bind fun x26 =>
  m_impl_ReadComplex_l1 n x26 n ([] : List Cx) (0 : Int)
theorem impl_ReadComplex_ok_fr0 (fr : Bool) (n : Nat) (s_ : Str) {r : List Cx × Bool} (h : m_impl_ReadComplex n s_ = some r) : ACall prog fr 19 [.d (.str (bstr s_))] [] (fun v o new => v = .tup [.row 0 r.1.length 0 r.1.length, .d (.bool r.2)] ∧ o = [] ∧ new = [.row 1 (r.1.map eCxf32)]) := by
  refine acall_of_aw hτ func19 rfl (by simp) (by simp) ?_
  unfold m_impl_ReadComplex at h
  refine aw_seq ?_
  refine aw_region ?_
  refine awl_val hτ rfl rfl rfl ?_
  refine awl_val hτ rfl rfl rfl ?_
  refine awl_nil ?_
  refine aw_seq ?_
  refine aw_region ?_
  refine awl_valH hτ rfl rfl rfl ?_
  refine awl_val hτ rfl rfl rfl ?_
  refine awl_nil ?_
  refine aw_seq ?_
  refine aw_seq ?_
  refine aw_region ?_
  refine awl_val hτ rfl rfl rfl ?_
  refine bnd_elim h fun x26 hx26 h => ?_
  refine awl_callP hτ false [] rfl rfl rfl (enterOk func54 rfl rfl) rfl rfl (by simp) ⟨trivial, trivial⟩ (by repeat' first | exact trivial | refine ⟨?_, ?_⟩) (impl_parted_ok n s_ hx26) ?_
  rintro r0 o0 n0 ⟨rfl, rfl, rfl⟩ -
  refine awl_val hτ (v := .d (.int .i64 (x26.length : Int))) rfl rfl (Eq.trans rfl (or_len (f := eStr) x26)) ?_
  refine awl_val hτ rfl rfl rfl ?_
  refine awl_nil ?_
  refine aw_block ?_
  refine aw_loop (ι := Nat × List Cx × Int) (fun (m51, v37, v38) => St.of [(4, .row 0 v37.length 0 v37.length), (13, .d (.sl false (x26.map eStr))), (14, .d (.int .i64 (x26.length : Int))), (15, .d (.int .i64 v38))] [.row 1 (v37.map eCxf32)] f19.ntmps 0) (fun (m51, v37, v38) => m_impl_ReadComplex_l1 n x26 m51 v37 v38 = some r) (fun x => x.1) (n, ([] : List Cx), (0 : Int)) h (weak_ofP [0] (l := [(4, .row 0 (([] : List Cx).length) 0 (([] : List Cx).length)), (13, .d (.sl false (x26.map eStr))), (14, .d (.int .i64 (x26.length : Int))), (15, .d (.int .i64 (0 : Int)))]) (objs := [.row 1 (([] : List Cx).map eCxf32)]) rfl (by simp) rfl (by repeat' first | exact trivial | refine ⟨?_, ?_⟩) ⟨rfl, trivial, rfl, trivial, rfl, trivial, rfl, trivial, trivial⟩) ?_
  rintro ⟨m51, v37, v38⟩ h
  replace h : m_impl_ReadComplex_l1 n x26 m51 v37 v38 = some r := h
  rcases m51 with _ | m51
  · rw [m_impl_ReadComplex_l1] at h; cases h
  rw [m_impl_ReadComplex_l1] at h
  refine aw_seq ?_
  refine aw_region ?_
  refine awl_val hτ rfl rfl rfl ?_
  refine awl_nil ?_
  refine aw_seq ?_
  refine aw_cond rfl (fun hc53 => ?_) (fun hc53 => ?_)
  · have h := if_t h hc53
    refine aw_skip ?_
    refine aw_hk1 (ι := List Cx) (fun v64 => St.of [(4, .row 0 v64.length 0 v64.length), (13, .d (.sl false (x26.map eStr))), (14, .d (.int .i64 (x26.length : Int))), (15, .d (.int .i64 v38))] [.row 1 (v64.map eCxf32)] f19.ntmps 0) (fun v64 => m_impl_ReadComplex_j2 n (m_impl_ReadComplex_l1 n x26 m51) v38 v64 = some r) ?_ (fun hk65 => ?_)
    · rintro v64 h
      replace h : m_impl_ReadComplex_j2 n (m_impl_ReadComplex_l1 n x26 m51) v38 v64 = some r := h
      unfold m_impl_ReadComplex_j2 at h
      refine aw_region ?_
      refine awl_val hτ rfl rfl rfl ?_
      refine awl_val hτ rfl rfl rfl ?_
      refine awl_nil ?_
      exact ⟨(m51, v64, (w64 (v38 + (1 : Int)))), h, Nat.lt_succ_self m51, (weak_ofP [0] (l := [(4, .row 0 v64.length 0 v64.length), (13, .d (.sl false (x26.map eStr))), (14, .d (.int .i64 (x26.length : Int))), (15, .d (.int .i64 (w64 (v38 + (1 : Int)))))]) (objs := [.row 1 (v64.map eCxf32)]) rfl (by simp) rfl (by repeat' first | exact trivial | refine ⟨?_, ?_⟩) ⟨rfl, trivial, rfl, trivial, rfl, trivial, rfl, trivial, trivial⟩)⟩
    · refine aw_seq ?_
      refine aw_block ?_
      refine aw_seq ?_
      refine aw_region ?_
      refine bnd_elim h fun x66 hx66 h => ?_
      refine awl_elem hτ rfl rfl rfl (getI_some hx66).1 (map_getI hx66) rfl ?_
      refine awl_val hτ rfl rfl rfl ?_
      refine awl_val hτ rfl rfl rfl ?_
      refine awl_nil ?_
      refine aw_hk1 (ι := Unit) (fun _ => St.of [(4, .row 0 v37.length 0 v37.length), (6, .d (.str (bstr x66))), (13, .d (.sl false (x26.map eStr))), (14, .d (.int .i64 (x26.length : Int))), (15, .d (.int .i64 v38))] [.row 1 (v37.map eCxf32)] f19.ntmps 0) (fun _ => m_impl_ReadComplex_j3 n (m_impl_ReadComplex_l1 n x26 m51) v37 v38 x66 = some r) ?_ (fun hk83 => ?_)
      · rintro ⟨⟩ h
        replace h : m_impl_ReadComplex_j3 n (m_impl_ReadComplex_l1 n x26 m51) v37 v38 x66 = some r := h
        unfold m_impl_ReadComplex_j3 at h
        refine aw_seq ?_
        refine aw_region ?_
        refine awl_val hτ rfl rfl rfl ?_
        refine grd_elim h fun hg69 h => ?_
        refine awl_need hτ (v := .d (.str (bstr (sub x66 (0 : Int) (8 : Int))))) rfl rfl (Eq.trans rfl (or_ssub _ _ _)) hg69 ?_
        refine bnd_elim h fun x70 hx70 h => ?_
        refine awl_callP hτ false [] rfl rfl rfl (enterOk func55 rfl rfl) rfl rfl (by simp) ⟨trivial, trivial⟩ (by repeat' first | exact trivial | refine ⟨?_, ?_⟩) (impl_readNumber_ok n (sub x66 (0 : Int) (8 : Int)) hx70) ?_
        rintro r0 o0 n0 ⟨rfl, rfl, rfl⟩ -
        refine awl_val hτ rfl rfl rfl ?_
        refine awl_val hτ rfl rfl rfl ?_
        refine awl_val hτ rfl rfl rfl ?_
        refine awl_val hτ rfl rfl rfl ?_
        refine awl_val hτ rfl rfl rfl ?_
        refine awl_nil ?_
        refine aw_seq ?_
        refine aw_weak (weak_ofP [0] (l := [(4, .row 0 v37.length 0 v37.length), (6, .d (.str (bstr x66))), (7, .d (.fl .f32 x70.1)), (8, .d (.bool x70.2)), (13, .d (.sl false (x26.map eStr))), (14, .d (.int .i64 (x26.length : Int))), (15, .d (.int .i64 v38))]) (objs := [.row 1 (v37.map eCxf32)]) rfl (by simp) rfl (by repeat' first | exact trivial | refine ⟨?_, ?_⟩) ⟨rfl, trivial, rfl, trivial, rfl, trivial, rfl, trivial, rfl, trivial, rfl, trivial, rfl, trivial, trivial⟩) ?_
        refine aw_region ?_
        refine awl_val hτ rfl rfl rfl ?_
        refine grd_elim h fun hg71 h => ?_
        refine awl_need hτ (v := .d (.str (bstr (sub x66 (8 : Int) (x66.length : Int))))) rfl rfl (Eq.trans rfl (or_ssub _ _ _)) hg71 ?_
        refine bnd_elim h fun x72 hx72 h => ?_
        refine awl_callP hτ false [] rfl rfl rfl (enterOk func55 rfl rfl) rfl rfl (by simp) ⟨trivial, trivial⟩ (by repeat' first | exact trivial | refine ⟨?_, ?_⟩) (impl_readNumber_ok n (sub x66 (8 : Int) (x66.length : Int)) hx72) ?_
        rintro r0 o0 n0 ⟨rfl, rfl, rfl⟩ -
        refine awl_val hτ rfl rfl rfl ?_
        refine awl_val hτ rfl rfl rfl ?_
        refine awl_val hτ rfl rfl rfl ?_
        refine awl_val hτ rfl rfl rfl ?_
        refine awl_val hτ rfl rfl rfl ?_
        refine awl_nil ?_
        refine aw_hk1 (ι := Unit) (fun _ => St.of [(4, .row 0 v37.length 0 v37.length), (7, .d (.fl .f32 x70.1)), (9, .d (.fl .f32 x72.1)), (13, .d (.sl false (x26.map eStr))), (14, .d (.int .i64 (x26.length : Int))), (15, .d (.int .i64 v38))] [.row 1 (v37.map eCxf32)] f19.ntmps 0) (fun _ => m_impl_ReadComplex_j4 n (m_impl_ReadComplex_l1 n x26 m51) v37 v38 x70 x72 = some r) ?_ (fun hk76 => ?_)
        · rintro ⟨⟩ h
          replace h : m_impl_ReadComplex_j4 n (m_impl_ReadComplex_l1 n x26 m51) v37 v38 x70 x72 = some r := h
          unfold m_impl_ReadComplex_j4 at h
          refine aw_region ?_
          refine awl_val hτ rfl rfl rfl ?_
          refine awl_val hτ rfl rfl rfl ?_
          refine awl_val hτ rfl rfl rfl ?_
          refine awl_val hτ rfl rfl rfl ?_
          refine awl_valH hτ rfl rfl rfl ?_
          refine grd_elim h fun hg75 h => ?_
          refine awl_needH hτ rfl rfl (Eq.trans rfl (or_append (f := eCxf32) v37 [(Cx.mk x70.1 x72.1)] rfl)) ⟨⟨rfl, Nat.le_of_ble_eq_true rfl⟩, len_map _, rfl, rfl, hg75, by decide, (all1 rfl)⟩ ?_
          refine awl_val hτ rfl rfl rfl ?_
          refine awl_nil ?_
          refine aw_weak (weak_ofP [0] (l := [(4, .row 0 ((v37 ++ [(Cx.mk x70.1 x72.1)]).length) 0 ((v37 ++ [(Cx.mk x70.1 x72.1)]).length)), (13, .d (.sl false (x26.map eStr))), (14, .d (.int .i64 (x26.length : Int))), (15, .d (.int .i64 v38))]) (objs := [.row 1 ((v37 ++ [(Cx.mk x70.1 x72.1)]).map eCxf32)]) rfl (by simp) rfl (by repeat' first | exact trivial | refine ⟨?_, ?_⟩) ⟨rfl, trivial, rfl, trivial, rfl, trivial, rfl, trivial, trivial⟩) ?_
          exact hk65 (v37 ++ [(Cx.mk x70.1 x72.1)]) h
        · refine aw_seq ?_
          refine aw_hk1 (ι := Bool) (fun v79 => St.of [(4, .row 0 v37.length 0 v37.length), (7, .d (.fl .f32 x70.1)), (9, .d (.fl .f32 x72.1)), (13, .d (.sl false (x26.map eStr))), (14, .d (.int .i64 (x26.length : Int))), (15, .d (.int .i64 v38)), (44, .d (.bool v79))] [.row 1 (v37.map eCxf32)] f19.ntmps 0) (fun v79 => m_impl_ReadComplex_j5 n (m_impl_ReadComplex_l1 n x26 m51) v37 v38 x70 x72 v79 = some r) ?_ (fun hk81 => ?_)
          · rintro v79 h
            replace h : m_impl_ReadComplex_j5 n (m_impl_ReadComplex_l1 n x26 m51) v37 v38 x70 x72 v79 = some r := h
            unfold m_impl_ReadComplex_j5 at h
            refine aw_cond rfl (fun hc80 => ?_) (fun hc80 => ?_)
            · have h := if_bt h hc80
              refine aw_seq ?_
              refine aw_region ?_
              refine awl_val hτ rfl rfl rfl ?_
              refine awl_val hτ rfl rfl rfl ?_
              refine awl_nil ?_
              refine aw_weak (weak_ofP [] (l := [(2, .d (.nils)), (3, .d (.bool false))]) (objs := []) rfl (by simp) rfl (by repeat' first | exact trivial | refine ⟨?_, ?_⟩) ⟨rfl, trivial, rfl, trivial, trivial⟩) ?_
              refine aw_weak (weak_relax [1] (l' := [(2, .row 0 (([] : List Cx).length) 0 (([] : List Cx).length)), (3, .d (.bool false))]) (objs' := []) (.cons (.c (.ghost ⟨Nat.le_of_ble_eq_true rfl, Nat.le_of_ble_eq_true rfl⟩)) (.cons (.c (.refl _)) .nil)) .nil) ?_
              refine aw_ret ?_
              have hr := Option.some.inj h
              subst hr
              exact ret_objs (.inr rfl) [0] (objs' := []) (new := [.row 1 (([] : List Cx).map eCxf32)]) rfl (by simp) (by simp) rfl (by repeat' first | exact trivial | refine ⟨?_, ?_⟩) rfl rfl (by repeat' first | exact trivial | refine ⟨?_, ?_⟩) (fun _ => ⟨by simp [V.flat, V.flatA, V.flatC, D.flat], (flat_cons (flat_row eCxf32_flat _) flat_nil)⟩) ⟨rfl, rfl, rfl⟩
            · have h := if_bf h hc80
              refine aw_skip ?_
              refine aw_weak (weak_ofP [0] (l := [(4, .row 0 v37.length 0 v37.length), (7, .d (.fl .f32 x70.1)), (9, .d (.fl .f32 x72.1)), (13, .d (.sl false (x26.map eStr))), (14, .d (.int .i64 (x26.length : Int))), (15, .d (.int .i64 v38))]) (objs := [.row 1 (v37.map eCxf32)]) rfl (by simp) rfl (by repeat' first | exact trivial | refine ⟨?_, ?_⟩) ⟨rfl, trivial, rfl, trivial, rfl, trivial, rfl, trivial, rfl, trivial, rfl, trivial, trivial⟩) ?_
              exact hk76 () h
          · refine aw_seq ?_
            refine aw_weak (weak_ofP [0] (l := [(4, .row 0 v37.length 0 v37.length), (7, .d (.fl .f32 x70.1)), (8, .d (.bool x70.2)), (9, .d (.fl .f32 x72.1)), (10, .d (.bool x72.2)), (13, .d (.sl false (x26.map eStr))), (14, .d (.int .i64 (x26.length : Int))), (15, .d (.int .i64 v38))]) (objs := [.row 1 (v37.map eCxf32)]) rfl (by simp) rfl (by repeat' first | exact trivial | refine ⟨?_, ?_⟩) ⟨rfl, trivial, rfl, trivial, rfl, trivial, rfl, trivial, rfl, trivial, rfl, trivial, rfl, trivial, rfl, trivial, trivial⟩) ?_
            refine aw_region ?_
            refine awl_val hτ rfl rfl rfl ?_
            refine awl_val hτ rfl rfl rfl ?_
            refine awl_val hτ rfl rfl rfl ?_
            refine awl_split 41 rfl (fun hb82 => ?_) (fun hb82 => ?_)
            · have hb82 := not_t hb82
              have h := if_bf h hb82
              refine awl_skip rfl rfl ?_
              refine awl_skip rfl rfl ?_
              refine awl_val hτ rfl rfl rfl ?_
              refine awl_nil ?_
              refine aw_weak (weak_ofP [0] (l := [(4, .row 0 v37.length 0 v37.length), (7, .d (.fl .f32 x70.1)), (9, .d (.fl .f32 x72.1)), (13, .d (.sl false (x26.map eStr))), (14, .d (.int .i64 (x26.length : Int))), (15, .d (.int .i64 v38)), (44, .d (.bool true))]) (objs := [.row 1 (v37.map eCxf32)]) rfl (by simp) rfl (by repeat' first | exact trivial | refine ⟨?_, ?_⟩) ⟨rfl, trivial, rfl, trivial, rfl, trivial, rfl, trivial, rfl, trivial, rfl, trivial, rfl, trivial, trivial⟩) ?_
              exact hk81 true h
            · have hb82 := not_f hb82
              have h := if_bt h hb82
              refine awl_val hτ rfl rfl rfl ?_
              refine awl_val hτ rfl rfl rfl ?_
              refine awl_val hτ rfl rfl rfl ?_
              refine awl_nil ?_
              refine aw_weak (weak_ofP [0] (l := [(4, .row 0 v37.length 0 v37.length), (7, .d (.fl .f32 x70.1)), (9, .d (.fl .f32 x72.1)), (13, .d (.sl false (x26.map eStr))), (14, .d (.int .i64 (x26.length : Int))), (15, .d (.int .i64 v38)), (44, .d (.bool (!x72.2)))]) (objs := [.row 1 (v37.map eCxf32)]) rfl (by simp) rfl (by repeat' first | exact trivial | refine ⟨?_, ?_⟩) ⟨rfl, trivial, rfl, trivial, rfl, trivial, rfl, trivial, rfl, trivial, rfl, trivial, rfl, trivial, trivial⟩) ?_
              exact hk81 (!x72.2) h
      · refine aw_seq ?_
        refine aw_hk1 (ι := Bool) (fun v86 => St.of [(4, .row 0 v37.length 0 v37.length), (6, .d (.str (bstr x66))), (13, .d (.sl false (x26.map eStr))), (14, .d (.int .i64 (x26.length : Int))), (15, .d (.int .i64 v38)), (26, .d (.bool v86))] [.row 1 (v37.map eCxf32)] f19.ntmps 0) (fun v86 => m_impl_ReadComplex_j6 n (m_impl_ReadComplex_l1 n x26 m51) v37 v38 x66 v86 = some r) ?_ (fun hk88 => ?_)
        · rintro v86 h
          replace h : m_impl_ReadComplex_j6 n (m_impl_ReadComplex_l1 n x26 m51) v37 v38 x66 v86 = some r := h
          unfold m_impl_ReadComplex_j6 at h
          refine aw_cond rfl (fun hc87 => ?_) (fun hc87 => ?_)
          · have h := if_bt h hc87
            refine aw_seq ?_
            refine aw_region ?_
            refine awl_val hτ rfl rfl rfl ?_
            refine awl_val hτ rfl rfl rfl ?_
            refine awl_nil ?_
            refine aw_weak (weak_ofP [] (l := [(2, .d (.nils)), (3, .d (.bool false))]) (objs := []) rfl (by simp) rfl (by repeat' first | exact trivial | refine ⟨?_, ?_⟩) ⟨rfl, trivial, rfl, trivial, trivial⟩) ?_
            refine aw_weak (weak_relax [1] (l' := [(2, .row 0 (([] : List Cx).length) 0 (([] : List Cx).length)), (3, .d (.bool false))]) (objs' := []) (.cons (.c (.ghost ⟨Nat.le_of_ble_eq_true rfl, Nat.le_of_ble_eq_true rfl⟩)) (.cons (.c (.refl _)) .nil)) .nil) ?_
            refine aw_ret ?_
            have hr := Option.some.inj h
            subst hr
            exact ret_objs (.inr rfl) [0] (objs' := []) (new := [.row 1 (([] : List Cx).map eCxf32)]) rfl (by simp) (by simp) rfl (by repeat' first | exact trivial | refine ⟨?_, ?_⟩) rfl rfl (by repeat' first | exact trivial | refine ⟨?_, ?_⟩) (fun _ => ⟨by simp [V.flat, V.flatA, V.flatC, D.flat], (flat_cons (flat_row eCxf32_flat _) flat_nil)⟩) ⟨rfl, rfl, rfl⟩
          · have h := if_bf h hc87
            refine aw_skip ?_
            refine aw_weak (weak_ofP [0] (l := [(4, .row 0 v37.length 0 v37.length), (6, .d (.str (bstr x66))), (13, .d (.sl false (x26.map eStr))), (14, .d (.int .i64 (x26.length : Int))), (15, .d (.int .i64 v38))]) (objs := [.row 1 (v37.map eCxf32)]) rfl (by simp) rfl (by repeat' first | exact trivial | refine ⟨?_, ?_⟩) ⟨rfl, trivial, rfl, trivial, rfl, trivial, rfl, trivial, rfl, trivial, trivial⟩) ?_
            exact hk83 () h
        · refine aw_seq ?_
          refine aw_region ?_
          refine awl_val hτ rfl rfl rfl ?_
          refine awl_val hτ rfl rfl rfl ?_
          refine awl_val hτ (v := .d (.bool (!(decide ((x66.length : Int) = (16 : Int)))))) rfl rfl (or_ine _ _) ?_
          refine awl_val hτ rfl rfl rfl ?_
          refine awl_split 22 rfl (fun hb89 => ?_) (fun hb89 => ?_)
          · have hb89 := not_t hb89
            have h := if_f h hb89
            refine awl_skip rfl rfl ?_
            refine awl_skip rfl rfl ?_
            refine awl_skip rfl rfl ?_
            refine awl_val hτ rfl rfl rfl ?_
            refine awl_nil ?_
            refine aw_weak (weak_ofP [0] (l := [(4, .row 0 v37.length 0 v37.length), (6, .d (.str (bstr x66))), (13, .d (.sl false (x26.map eStr))), (14, .d (.int .i64 (x26.length : Int))), (15, .d (.int .i64 v38)), (26, .d (.bool true))]) (objs := [.row 1 (v37.map eCxf32)]) rfl (by simp) rfl (by repeat' first | exact trivial | refine ⟨?_, ?_⟩) ⟨rfl, trivial, rfl, trivial, rfl, trivial, rfl, trivial, rfl, trivial, rfl, trivial, trivial⟩) ?_
            exact hk88 true h
          · have hb89 := not_f hb89
            have h := if_t h hb89
            refine awl_val hτ rfl rfl rfl ?_
            refine awl_need hτ rfl rfl rfl (len_map _) ?_
            refine awl_val hτ (v := .d (.bool (decide ((v37.length : Int) = (256 : Int))))) rfl rfl (or_ieq _ _) ?_
            refine awl_val hτ rfl rfl rfl ?_
            refine awl_nil ?_
            refine aw_weak (weak_ofP [0] (l := [(4, .row 0 v37.length 0 v37.length), (6, .d (.str (bstr x66))), (13, .d (.sl false (x26.map eStr))), (14, .d (.int .i64 (x26.length : Int))), (15, .d (.int .i64 v38)), (26, .d (.bool (decide ((v37.length : Int) = (256 : Int)))))]) (objs := [.row 1 (v37.map eCxf32)]) rfl (by simp) rfl (by repeat' first | exact trivial | refine ⟨?_, ?_⟩) ⟨rfl, trivial, rfl, trivial, rfl, trivial, rfl, trivial, rfl, trivial, rfl, trivial, trivial⟩) ?_
            exact hk88 (decide ((v37.length : Int) = (256 : Int))) h
  · have h := if_f h hc53
    refine aw_exit ?_
    refine aw_seq ?_
    refine aw_region ?_
    refine awl_val hτ rfl rfl rfl ?_
    refine awl_val hτ rfl rfl rfl ?_
    refine awl_val hτ rfl rfl rfl ?_
    refine awl_nil ?_
    refine aw_weak (weak_ofP [0] (l := [(2, .row 0 v37.length 0 v37.length), (3, .d (.bool true))]) (objs := [.row 1 (v37.map eCxf32)]) rfl (by simp) rfl (by repeat' first | exact trivial | refine ⟨?_, ?_⟩) ⟨rfl, trivial, rfl, trivial, trivial⟩) ?_
    refine aw_ret ?_
    have hr := Option.some.inj h
    subst hr
    exact ret_objs (.inr rfl) [0] (objs' := []) (new := [.row 1 (v37.map eCxf32)]) rfl (by simp) (by simp) rfl (by repeat' first | exact trivial | refine ⟨?_, ?_⟩) rfl rfl (by repeat' first | exact trivial | refine ⟨?_, ?_⟩) (fun _ => ⟨by simp [V.flat, V.flatA, V.flatC, D.flat], (flat_cons (flat_row eCxf32_flat _) flat_nil)⟩) ⟨rfl, rfl, rfl⟩
theorem impl_ReadComplex_ok (n : Nat) (s_ : Str) {r : List Cx × Bool} (h : m_impl_ReadComplex n s_ = some r) : ACall prog false 19 [.d (.str (bstr s_))] [] (fun v o new => v = .tup [.row 0 r.1.length 0 r.1.length, .d (.bool r.2)] ∧ o = [] ∧ new = [.row 1 (r.1.map eCxf32)]) := impl_ReadComplex_ok_fr0 false n s_ h
theorem impl_ReadComplex_ok_fr (n : Nat) (s_ : Str) {r : List Cx × Bool} (h : m_impl_ReadComplex n s_ = some r) : ACall prog true 19 [.d (.str (bstr s_))] [] (fun v o new => v = .tup [.row 0 r.1.length 0 r.1.length, .d (.bool r.2)] ∧ o = [] ∧ new = [.row 1 (r.1.map eCxf32)]) := impl_ReadComplex_ok_fr0 true n s_ h

def m_spec_B10Complex (n : Nat) (code_ : List Int) : Option Cx :=
  (m_spec_l00From n code_).bind fun x5 =>
  (m_spec_l00Src_one n x5 (4 : Int)).bind fun x8 =>
  if x8.1 = true then
    (m_spec_l01DrawComplex n x8.2).bind fun x10 =>
    some x10.1
  else
    (m_spec_l01DrawFine n x8.2).bind fun x11 =>
    some x11.1
theorem spec_B10Complex_ok_fr0 (fr : Bool) (n : Nat) (code_ : List Int) {r : Cx} (h : m_spec_B10Complex n code_ = some r) : ACall prog fr 23 [.d (.sl false (code_.map eIntu8))] [] (fun v o new => v = .d (.cx .f32 r.re r.im) ∧ o = [] ∧ new = []) := by
  refine acall_of_aw hτ func23 rfl (by simp) (by simp) ?_
  unfold m_spec_B10Complex at h
  refine aw_seq ?_
  refine aw_region ?_
  refine awl_val hτ rfl rfl rfl ?_
  refine awl_nil ?_
  refine aw_seq ?_
  refine aw_region ?_
  refine awl_val hτ rfl rfl rfl ?_
  refine bnd_elim h fun x5 hx5 h => ?_
  refine awl_callP hτ false [] rfl rfl rfl (enterOk func43 rfl rfl) rfl rfl (by simp) ⟨trivial, trivial⟩ (by repeat' first | exact trivial | refine ⟨?_, ?_⟩) (spec_l00From_ok n code_ hx5) ?_
  rintro r0 o0 n0 ⟨rfl, rfl, rfl⟩ -
  refine awl_val hτ rfl rfl rfl ?_
  refine awl_nil ?_
  refine aw_seq ?_
  refine aw_seq ?_
  refine aw_region ?_
  refine awl_val hτ rfl rfl rfl ?_
  refine bnd_elim h fun x8 hx8 h => ?_
  refine awl_callP hτ false [0] rfl rfl rfl (enterOk func56 rfl rfl) rfl rfl (by simp) ⟨trivial, trivial, trivial⟩ (by repeat' first | exact trivial | refine ⟨?_, ?_⟩) (spec_l00Src_one_ok n x5 (4 : Int) hx8) ?_
  rintro r0 o0 n0 ⟨rfl, rfl, rfl⟩ -
  refine awl_nil ?_
  refine aw_weak (weak_ofP [0] (l := [(3, .ptr 0 0), (7, .d (.bool x8.1))]) (objs := [.box [.d (.sl false (x8.2.code.map eIntu8)), .d (.int .i64 x8.2.at_), .d (.int .u64 x8.2.seed)]]) rfl (by simp) rfl (by repeat' first | exact trivial | refine ⟨?_, ?_⟩) ⟨rfl, trivial, rfl, trivial, trivial⟩) ?_
  refine aw_cond rfl (fun hc9 => ?_) (fun hc9 => ?_)
  · have h := if_bt h hc9
    refine aw_seq ?_
    refine aw_region ?_
    refine awl_val hτ rfl rfl rfl ?_
    refine bnd_elim h fun x10 hx10 h => ?_
    refine awl_callP hτ false [0] rfl rfl rfl (enterOk func63 rfl rfl) rfl rfl (by simp) ⟨trivial, trivial⟩ (by repeat' first | exact trivial | refine ⟨?_, ?_⟩) (spec_l01DrawComplex_ok n x8.2 hx10) ?_
    rintro r0 o0 n0 ⟨rfl, rfl, rfl⟩ -
    refine awl_val hτ rfl rfl rfl ?_
    refine awl_nil ?_
    refine aw_weak (weak_ofP [] (l := [(2, .d (.cx .f32 x10.1.re x10.1.im))]) (objs := []) rfl (by simp) rfl (by repeat' first | exact trivial | refine ⟨?_, ?_⟩) ⟨rfl, trivial, trivial⟩) ?_
    refine aw_ret ?_
    have hr := Option.some.inj h
    subst hr
    exact ret_objs (.inr rfl) [] (objs' := []) (new := []) rfl (by simp) (by simp) rfl (by repeat' first | exact trivial | refine ⟨?_, ?_⟩) rfl rfl (by repeat' first | exact trivial | refine ⟨?_, ?_⟩) (fun _ => ⟨by simp [V.flat, V.flatA, V.flatC, D.flat], flat_nil⟩) ⟨rfl, rfl, rfl⟩
  · have h := if_bf h hc9
    refine aw_skip ?_
    refine aw_seq ?_
    refine aw_region ?_
    refine awl_val hτ rfl rfl rfl ?_
    refine bnd_elim h fun x11 hx11 h => ?_
    refine awl_callP hτ false [0] rfl rfl rfl (enterOk func64 rfl rfl) rfl rfl (by simp) ⟨trivial, trivial⟩ (by repeat' first | exact trivial | refine ⟨?_, ?_⟩) (spec_l01DrawFine_ok n x8.2 hx11) ?_
    rintro r0 o0 n0 ⟨rfl, rfl, rfl⟩ -
    refine awl_val hτ rfl rfl rfl ?_
    refine awl_nil ?_
    refine aw_weak (weak_ofP [] (l := [(2, .d (.cx .f32 x11.1.re x11.1.im))]) (objs := []) rfl (by simp) rfl (by repeat' first | exact trivial | refine ⟨?_, ?_⟩) ⟨rfl, trivial, trivial⟩) ?_
    refine aw_ret ?_
    have hr := Option.some.inj h
    subst hr
    exact ret_objs (.inr rfl) [] (objs' := []) (new := []) rfl (by simp) (by simp) rfl (by repeat' first | exact trivial | refine ⟨?_, ?_⟩) rfl rfl (by repeat' first | exact trivial | refine ⟨?_, ?_⟩) (fun _ => ⟨by simp [V.flat, V.flatA, V.flatC, D.flat], flat_nil⟩) ⟨rfl, rfl, rfl⟩
theorem spec_B10Complex_ok (n : Nat) (code_ : List Int) {r : Cx} (h : m_spec_B10Complex n code_ = some r) : ACall prog false 23 [.d (.sl false (code_.map eIntu8))] [] (fun v o new => v = .d (.cx .f32 r.re r.im) ∧ o = [] ∧ new = []) := spec_B10Complex_ok_fr0 false n code_ h
theorem spec_B10Complex_ok_fr (n : Nat) (code_ : List Int) {r : Cx} (h : m_spec_B10Complex n code_ = some r) : ACall prog true 23 [.d (.sl false (code_.map eIntu8))] [] (fun v o new => v = .d (.cx .f32 r.re r.im) ∧ o = [] ∧ new = []) := spec_B10Complex_ok_fr0 true n code_ h

def m_spec_l01CSame (n : Nat) (a_ : Cx) (b_ : Cx) : Option Bool :=
  (m_spec_l01Same n a_.re b_.re).bind fun x5 =>
  if x5 = true then
    (m_spec_l01Same n a_.im b_.im).bind fun x7 =>
    some x7
  else
    some false
theorem spec_l01CSame_ok_fr0 (fr : Bool) (n : Nat) (a_ : Cx) (b_ : Cx) {r : Bool} (h : m_spec_l01CSame n a_ b_ = some r) : ACall prog fr 96 [.d (.cx .f32 a_.re a_.im), .d (.cx .f32 b_.re b_.im)] [] (fun v o new => v = .d (.bool r) ∧ o = [] ∧ new = []) := by
  refine acall_of_aw hτ func96 rfl (by simp) (by simp) ?_
  unfold m_spec_l01CSame at h
  refine aw_seq ?_
  refine aw_region ?_
  refine awl_val hτ rfl rfl rfl ?_
  refine awl_nil ?_
  refine aw_seq ?_
  refine aw_region ?_
  refine awl_val hτ rfl rfl rfl ?_
  refine awl_val hτ rfl rfl rfl ?_
  refine awl_val hτ rfl rfl rfl ?_
  refine awl_val hτ rfl rfl rfl ?_
  refine bnd_elim h fun x5 hx5 h => ?_
  refine awl_callP hτ false [] rfl rfl rfl (enterOk func47 rfl rfl) rfl rfl (by simp) ⟨trivial, trivial, trivial⟩ (by repeat' first | exact trivial | refine ⟨?_, ?_⟩) (spec_l01Same_ok n a_.re b_.re hx5) ?_
  rintro r0 o0 n0 ⟨rfl, rfl, rfl⟩ -
  refine awl_val hτ rfl rfl rfl ?_
  refine awl_split 10 rfl (fun hb6 => ?_) (fun hb6 => ?_)
  · have h := if_bt h hb6
    refine awl_val hτ rfl rfl rfl ?_
    refine awl_val hτ rfl rfl rfl ?_
    refine awl_val hτ rfl rfl rfl ?_
    refine awl_val hτ rfl rfl rfl ?_
    refine bnd_elim h fun x7 hx7 h => ?_
    refine awl_callP hτ false [] rfl rfl rfl (enterOk func47 rfl rfl) rfl rfl (by simp) ⟨trivial, trivial, trivial⟩ (by repeat' first | exact trivial | refine ⟨?_, ?_⟩) (spec_l01Same_ok n a_.im b_.im hx7) ?_
    rintro r0 o0 n0 ⟨rfl, rfl, rfl⟩ -
    refine awl_weak (weak_ofP [] (l := [(4, .d (.bool false)), (10, .d (.bool true)), (15, .d (.bool x7))]) (objs := []) rfl (by simp) rfl (by repeat' first | exact trivial | refine ⟨?_, ?_⟩) ⟨rfl, trivial, rfl, trivial, rfl, trivial, trivial⟩) ?_
    refine awl_val hτ rfl rfl rfl ?_
    refine awl_val hτ rfl rfl rfl ?_
    refine awl_nil ?_
    refine aw_weak (weak_ofP [] (l := [(4, .d (.bool x7))]) (objs := []) rfl (by simp) rfl (by repeat' first | exact trivial | refine ⟨?_, ?_⟩) ⟨rfl, trivial, trivial⟩) ?_
    refine aw_ret ?_
    have hr := Option.some.inj h
    subst hr
    exact ret_objs (.inr rfl) [] (objs' := []) (new := []) rfl (by simp) (by simp) rfl (by repeat' first | exact trivial | refine ⟨?_, ?_⟩) rfl rfl (by repeat' first | exact trivial | refine ⟨?_, ?_⟩) (fun _ => ⟨by simp [V.flat, V.flatA, V.flatC, D.flat], flat_nil⟩) ⟨rfl, rfl, rfl⟩
  · have h := if_bf h hb6
    refine awl_skip rfl rfl ?_
    refine awl_skip rfl rfl ?_
    refine awl_skip rfl rfl ?_
    refine awl_skip rfl rfl ?_
    refine awl_skip rfl rfl ?_
    refine awl_weak (weak_ofP [] (l := [(4, .d (.bool false)), (10, .d (.bool false)), (15, .und)]) (objs := []) rfl (by simp) rfl (by repeat' first | exact trivial | refine ⟨?_, ?_⟩) ⟨rfl, trivial, rfl, trivial, rfl, trivial, trivial⟩) ?_
    refine awl_val hτ rfl rfl rfl ?_
    refine awl_val hτ rfl rfl rfl ?_
    refine awl_nil ?_
    refine aw_weak (weak_ofP [] (l := [(4, .d (.bool false))]) (objs := []) rfl (by simp) rfl (by repeat' first | exact trivial | refine ⟨?_, ?_⟩) ⟨rfl, trivial, trivial⟩) ?_
    refine aw_ret ?_
    have hr := Option.some.inj h
    subst hr
    exact ret_objs (.inr rfl) [] (objs' := []) (new := []) rfl (by simp) (by simp) rfl (by repeat' first | exact trivial | refine ⟨?_, ?_⟩) rfl rfl (by repeat' first | exact trivial | refine ⟨?_, ?_⟩) (fun _ => ⟨by simp [V.flat, V.flatA, V.flatC, D.flat], flat_nil⟩) ⟨rfl, rfl, rfl⟩
theorem spec_l01CSame_ok (n : Nat) (a_ : Cx) (b_ : Cx) {r : Bool} (h : m_spec_l01CSame n a_ b_ = some r) : ACall prog false 96 [.d (.cx .f32 a_.re a_.im), .d (.cx .f32 b_.re b_.im)] [] (fun v o new => v = .d (.bool r) ∧ o = [] ∧ new = []) := spec_l01CSame_ok_fr0 false n a_ b_ h
theorem spec_l01CSame_ok_fr (n : Nat) (a_ : Cx) (b_ : Cx) {r : Bool} (h : m_spec_l01CSame n a_ b_ = some r) : ACall prog true 96 [.d (.cx .f32 a_.re a_.im), .d (.cx .f32 b_.re b_.im)] [] (fun v o new => v = .d (.bool r) ∧ o = [] ∧ new = []) := spec_l01CSame_ok_fr0 true n a_ b_ h

def m_spec_SameComplex (n : Nat) (a_ : Cx) (b_ : Cx) : Option Bool :=
  (m_spec_l01CSame n a_ b_).bind fun x2 =>
  some x2
theorem spec_SameComplex_ok_fr0 (fr : Bool) (n : Nat) (a_ : Cx) (b_ : Cx) {r : Bool} (h : m_spec_SameComplex n a_ b_ = some r) : ACall prog fr 65 [.d (.cx .f32 a_.re a_.im), .d (.cx .f32 b_.re b_.im)] [] (fun v o new => v = .d (.bool r) ∧ o = [] ∧ new = []) := by
  refine acall_of_aw hτ func65 rfl (by simp) (by simp) ?_
  unfold m_spec_SameComplex at h
  refine aw_seq ?_
  refine aw_region ?_
  refine awl_val hτ rfl rfl rfl ?_
  refine awl_nil ?_
  refine aw_seq ?_
  refine aw_region ?_
  refine awl_val hτ rfl rfl rfl ?_
  refine awl_val hτ rfl rfl rfl ?_
  refine bnd_elim h fun x2 hx2 h => ?_
  refine awl_callP hτ false [] rfl rfl rfl (enterOk func96 rfl rfl) rfl rfl (by simp) ⟨trivial, trivial, trivial⟩ (by repeat' first | exact trivial | refine ⟨?_, ?_⟩) (spec_l01CSame_ok n a_ b_ hx2) ?_
  rintro r0 o0 n0 ⟨rfl, rfl, rfl⟩ -
  refine awl_val hτ rfl rfl rfl ?_
  refine awl_nil ?_
  refine aw_weak (weak_ofP [] (l := [(4, .d (.bool x2))]) (objs := []) rfl (by simp) rfl (by repeat' first | exact trivial | refine ⟨?_, ?_⟩) ⟨rfl, trivial, trivial⟩) ?_
  refine aw_ret ?_
  have hr := Option.some.inj h
  subst hr
  exact ret_objs (.inr rfl) [] (objs' := []) (new := []) rfl (by simp) (by simp) rfl (by repeat' first | exact trivial | refine ⟨?_, ?_⟩) rfl rfl (by repeat' first | exact trivial | refine ⟨?_, ?_⟩) (fun _ => ⟨by simp [V.flat, V.flatA, V.flatC, D.flat], flat_nil⟩) ⟨rfl, rfl, rfl⟩
theorem spec_SameComplex_ok (n : Nat) (a_ : Cx) (b_ : Cx) {r : Bool} (h : m_spec_SameComplex n a_ b_ = some r) : ACall prog false 65 [.d (.cx .f32 a_.re a_.im), .d (.cx .f32 b_.re b_.im)] [] (fun v o new => v = .d (.bool r) ∧ o = [] ∧ new = []) := spec_SameComplex_ok_fr0 false n a_ b_ h
theorem spec_SameComplex_ok_fr (n : Nat) (a_ : Cx) (b_ : Cx) {r : Bool} (h : m_spec_SameComplex n a_ b_ = some r) : ACall prog true 65 [.d (.cx .f32 a_.re a_.im), .d (.cx .f32 b_.re b_.im)] [] (fun v o new => v = .d (.bool r) ∧ o = [] ∧ new = []) := spec_SameComplex_ok_fr0 true n a_ b_ h

def m_laws_b10Same_l1 (n : Nat) (a_ : List Cx) (b_ : List Cx) : Nat → Int → Option Bool
  | 0, _ => none
  | m18 + 1, v13 =>
    if v13 < (a_.length : Int) then
      (getI a_ v13).bind fun x24 =>
      (getI b_ v13).bind fun x25 =>
      (m_spec_SameComplex n x24 x25).bind fun x26 =>
      if x26 = true then
        (m_laws_b10Same_l1 n a_ b_ m18) (w64 (v13 + (1 : Int)))
      else
        some false
    else
      some true
def m_laws_b10Same (n : Nat) (a_ : List Cx) (b_ : List Cx) : Option Bool :=
  if (a_.length : Int) = (b_.length : Int) then
    m_laws_b10Same_l1 n a_ b_ n (0 : Int)
  else
    some false
theorem laws_b10Same_ok_fr0 (fr : Bool) (n : Nat) (a_ : List Cx) (b_ : List Cx) {r : Bool} (h : m_laws_b10Same n a_ b_ = some r) : ACall prog fr 24 [.d (.sl false (a_.map eCxf32)), .d (.sl false (b_.map eCxf32))] [] (fun v o new => v = .d (.bool r) ∧ o = [] ∧ new = []) := by
  refine acall_of_aw hτ func24 rfl (by simp) (by simp) ?_
  unfold m_laws_b10Same at h
  refine aw_seq ?_
  refine aw_region ?_
  refine awl_val hτ rfl rfl rfl ?_
  refine awl_nil ?_
  refine aw_seq ?_
  refine aw_seq ?_
  refine aw_region ?_
  refine awl_val hτ rfl rfl rfl ?_
  refine awl_val hτ (v := .d (.int .i64 (a_.length : Int))) rfl rfl (Eq.trans rfl (or_len (f := eCxf32) a_)) ?_
  refine awl_val hτ rfl rfl rfl ?_
  refine awl_val hτ (v := .d (.int .i64 (b_.length : Int))) rfl rfl (Eq.trans rfl (or_len (f := eCxf32) b_)) ?_
  refine awl_val hτ (v := .d (.bool (!(decide ((a_.length : Int) = (b_.length : Int)))))) rfl rfl (or_ine _ _) ?_
  refine awl_nil ?_
  refine aw_weak (weak_ofP [] (l := [(0, .d (.sl false (a_.map eCxf32))), (1, .d (.sl false (b_.map eCxf32))), (10, .d (.bool (!(decide ((a_.length : Int) = (b_.length : Int))))))]) (objs := []) rfl (by simp) rfl (by repeat' first | exact trivial | refine ⟨?_, ?_⟩) ⟨rfl, trivial, rfl, trivial, rfl, trivial, trivial⟩) ?_
  refine aw_cond rfl (fun hc9 => ?_) (fun hc9 => ?_)
  · have hc9 := not_t hc9
    have h := if_f h hc9
    refine aw_seq ?_
    refine aw_region ?_
    refine awl_val hτ rfl rfl rfl ?_
    refine awl_nil ?_
    refine aw_weak (weak_ofP [] (l := [(4, .d (.bool false))]) (objs := []) rfl (by simp) rfl (by repeat' first | exact trivial | refine ⟨?_, ?_⟩) ⟨rfl, trivial, trivial⟩) ?_
    refine aw_ret ?_
    have hr := Option.some.inj h
    subst hr
    exact ret_objs (.inr rfl) [] (objs' := []) (new := []) rfl (by simp) (by simp) rfl (by repeat' first | exact trivial | refine ⟨?_, ?_⟩) rfl rfl (by repeat' first | exact trivial | refine ⟨?_, ?_⟩) (fun _ => ⟨by simp [V.flat, V.flatA, V.flatC, D.flat], flat_nil⟩) ⟨rfl, rfl, rfl⟩
  · have hc9 := not_f hc9
    have h := if_t h hc9
    refine aw_skip ?_
    refine aw_seq ?_
    refine aw_seq ?_
    refine aw_region ?_
    refine awl_val hτ rfl rfl rfl ?_
    refine awl_val hτ (v := .d (.int .i64 (a_.length : Int))) rfl rfl (Eq.trans rfl (or_len (f := eCxf32) a_)) ?_
    refine awl_val hτ rfl rfl rfl ?_
    refine awl_nil ?_
    refine aw_block ?_
    refine aw_loop (ι := Nat × Int) (fun (m18, v13) => St.of [(0, .d (.sl false (a_.map eCxf32))), (1, .d (.sl false (b_.map eCxf32))), (12, .d (.int .i64 (a_.length : Int))), (13, .d (.int .i64 v13))] [] f24.ntmps 0) (fun (m18, v13) => m_laws_b10Same_l1 n a_ b_ m18 v13 = some r) (fun x => x.1) (n, (0 : Int)) h (weak_ofP [] (l := [(0, .d (.sl false (a_.map eCxf32))), (1, .d (.sl false (b_.map eCxf32))), (12, .d (.int .i64 (a_.length : Int))), (13, .d (.int .i64 (0 : Int)))]) (objs := []) rfl (by simp) rfl (by repeat' first | exact trivial | refine ⟨?_, ?_⟩) ⟨rfl, trivial, rfl, trivial, rfl, trivial, rfl, trivial, trivial⟩) ?_
    rintro ⟨m18, v13⟩ h
    replace h : m_laws_b10Same_l1 n a_ b_ m18 v13 = some r := h
    rcases m18 with _ | m18
    · rw [m_laws_b10Same_l1] at h; cases h
    rw [m_laws_b10Same_l1] at h
    refine aw_seq ?_
    refine aw_region ?_
    refine awl_val hτ rfl rfl rfl ?_
    refine awl_nil ?_
    refine aw_seq ?_
    refine aw_cond rfl (fun hc20 => ?_) (fun hc20 => ?_)
    · have h := if_t h hc20
      refine aw_skip ?_
      refine aw_seq ?_
      refine aw_block ?_
      refine aw_seq ?_
      refine aw_region ?_
      refine awl_val hτ rfl rfl rfl ?_
      refine awl_val hτ rfl rfl rfl ?_
      refine awl_nil ?_
      refine aw_seq ?_
      refine any_start ?_
      refine any_val hτ [] 0 rfl rfl rfl rfl rfl ?_
      refine any_val hτ [] 1 rfl rfl rfl rfl rfl ?_
      refine bnd_elim h fun x24 hx24 h => ?_
      refine any_elem hτ [] 2 rfl rfl rfl rfl rfl (getI_some hx24).1 (map_getI hx24) rfl ?_
      refine any_val hτ [] 3 rfl rfl rfl rfl rfl ?_
      refine any_val hτ [] 4 rfl rfl rfl rfl rfl ?_
      refine any_val hτ [] 5 rfl rfl rfl rfl rfl ?_
      refine bnd_elim h fun x25 hx25 h => ?_
      refine any_elem hτ [] 6 rfl rfl rfl rfl rfl (getI_some hx25).1 (map_getI hx25) rfl ?_
      refine any_val hτ [] 7 rfl rfl rfl rfl rfl ?_
      refine bnd_elim h fun x26 hx26 h => ?_
      refine any_callP hτ false [] [] 8 rfl rfl rfl rfl (enterOk func65 rfl rfl) rfl rfl (by simp) ⟨trivial, trivial, trivial⟩ (by repeat' first | exact trivial | refine ⟨?_, ?_⟩) (spec_SameComplex_ok n x24 x25 hx26) trivial ?_
      refine any_val hτ [] 9 rfl rfl rfl rfl rfl ?_
      refine any_done mixed (by kernel_rfl) ?_
      refine aw_weak (weak_ofP [] (l := [(0, .d (.sl false (a_.map eCxf32))), (1, .d (.sl false (b_.map eCxf32))), (12, .d (.int .i64 (a_.length : Int))), (13, .d (.int .i64 v13)), (25, .d (.bool (!x26)))]) (objs := []) rfl (by simp) rfl (by repeat' first | exact trivial | refine ⟨?_, ?_⟩) ⟨rfl, trivial, rfl, trivial, rfl, trivial, rfl, trivial, rfl, trivial, trivial⟩) ?_
      refine aw_cond rfl (fun hc27 => ?_) (fun hc27 => ?_)
      · have hc27 := not_t hc27
        have h := if_bf h hc27
        refine aw_seq ?_
        refine aw_region ?_
        refine awl_val hτ rfl rfl rfl ?_
        refine awl_nil ?_
        refine aw_weak (weak_ofP [] (l := [(4, .d (.bool false))]) (objs := []) rfl (by simp) rfl (by repeat' first | exact trivial | refine ⟨?_, ?_⟩) ⟨rfl, trivial, trivial⟩) ?_
        refine aw_ret ?_
        have hr := Option.some.inj h
        subst hr
        exact ret_objs (.inr rfl) [] (objs' := []) (new := []) rfl (by simp) (by simp) rfl (by repeat' first | exact trivial | refine ⟨?_, ?_⟩) rfl rfl (by repeat' first | exact trivial | refine ⟨?_, ?_⟩) (fun _ => ⟨by simp [V.flat, V.flatA, V.flatC, D.flat], flat_nil⟩) ⟨rfl, rfl, rfl⟩
      · have hc27 := not_f hc27
        have h := if_bt h hc27
        refine aw_skip ?_
        refine aw_region ?_
        refine awl_val hτ rfl rfl rfl ?_
        refine awl_val hτ rfl rfl rfl ?_
        refine awl_nil ?_
        exact ⟨(m18, (w64 (v13 + (1 : Int)))), h, Nat.lt_succ_self m18, (weak_ofP [] (l := [(0, .d (.sl false (a_.map eCxf32))), (1, .d (.sl false (b_.map eCxf32))), (12, .d (.int .i64 (a_.length : Int))), (13, .d (.int .i64 (w64 (v13 + (1 : Int)))))]) (objs := []) rfl (by simp) rfl (by repeat' first | exact trivial | refine ⟨?_, ?_⟩) ⟨rfl, trivial, rfl, trivial, rfl, trivial, rfl, trivial, trivial⟩)⟩
    · have h := if_f h hc20
      refine aw_exit ?_
      refine aw_seq ?_
      refine aw_region ?_
      refine awl_val hτ rfl rfl rfl ?_
      refine awl_nil ?_
      refine aw_weak (weak_ofP [] (l := [(4, .d (.bool true))]) (objs := []) rfl (by simp) rfl (by repeat' first | exact trivial | refine ⟨?_, ?_⟩) ⟨rfl, trivial, trivial⟩) ?_
      refine aw_ret ?_
      have hr := Option.some.inj h
      subst hr
      exact ret_objs (.inr rfl) [] (objs' := []) (new := []) rfl (by simp) (by simp) rfl (by repeat' first | exact trivial | refine ⟨?_, ?_⟩) rfl rfl (by repeat' first | exact trivial | refine ⟨?_, ?_⟩) (fun _ => ⟨by simp [V.flat, V.flatA, V.flatC, D.flat], flat_nil⟩) ⟨rfl, rfl, rfl⟩
theorem laws_b10Same_ok (n : Nat) (a_ : List Cx) (b_ : List Cx) {r : Bool} (h : m_laws_b10Same n a_ b_ = some r) : ACall prog false 24 [.d (.sl false (a_.map eCxf32)), .d (.sl false (b_.map eCxf32))] [] (fun v o new => v = .d (.bool r) ∧ o = [] ∧ new = []) := laws_b10Same_ok_fr0 false n a_ b_ h
theorem laws_b10Same_ok_fr (n : Nat) (a_ : List Cx) (b_ : List Cx) {r : Bool} (h : m_laws_b10Same n a_ b_ = some r) : ACall prog true 24 [.d (.sl false (a_.map eCxf32)), .d (.sl false (b_.map eCxf32))] [] (fun v o new => v = .d (.bool r) ∧ o = [] ∧ new = []) := laws_b10Same_ok_fr0 true n a_ b_ h

end Go.Proofs.YtdgkahieegcmeaaDoor.AWN
