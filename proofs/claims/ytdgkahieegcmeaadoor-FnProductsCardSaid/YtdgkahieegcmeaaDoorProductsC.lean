/- Models and contracts, printed by program. -/
import Derived.Test.YtdgkahieegcmeaaDoorProductsB
set_option linter.unusedVariables false
set_option linter.unusedSimpArgs false
set_option linter.unusedSectionVars false
set_option maxHeartbeats 2000000
namespace Go.Proofs.YtdgkahieegcmeaaDoor.AWN
open Go Go.Proofs.Tryd

def m_impl_AngleTurns_j7 (n : Nat) (v53 : Nat) : Option Nat :=
  (fconv .f64 .f32 v53).bind fun x54 =>
  some x54
def m_impl_AngleTurns_j6 (n : Nat) (y_ : Nat) (v51 : Nat) : Option Nat :=
  if (fcmp .lss .f32 y_ (0 : Nat)) = true then
    m_impl_AngleTurns_j7 n (fneg .f64 v51)
  else
    m_impl_AngleTurns_j7 n v51
def m_impl_AngleTurns_j5 (n : Nat) (y_ : Nat) (x_ : Nat) (v49 : Nat) : Option Nat :=
  if (fcmp .lss .f32 x_ (0 : Nat)) = true then
    m_impl_AngleTurns_j6 n y_ (farith .sub .f64 (4602678819172646912 : Nat) v49)
  else
    m_impl_AngleTurns_j6 n y_ v49
def m_impl_AngleTurns_j4 (n : Nat) (y_ : Nat) (x_ : Nat) (x31 : Nat) (x33 : Nat) (v42 : Nat) (v47 : Nat) : Option Nat :=
  if (fcmp .gtr .f64 x31 x33) = true then
    m_impl_AngleTurns_j5 n y_ x_ (farith .sub .f64 (4598175219545276416 : Nat) (farith .quo .f64 (farith .mul .f64 (4620693217682128896 : Nat) (farith .mul .f64 v42 v47)) (4618760256179416344 : Nat)))
  else
    m_impl_AngleTurns_j5 n y_ x_ (farith .quo .f64 (farith .mul .f64 (4620693217682128896 : Nat) (farith .mul .f64 v42 v47)) (4618760256179416344 : Nat))
def m_impl_AngleTurns_l8 (n : Nat) (y_ : Nat) (x_ : Nat) (x31 : Nat) (x33 : Nat) (v42 : Nat) : Nat → Nat → Int → Option Nat
  | 0, _, _ => none
  | m66 + 1, v62, v63 =>
    if v63 ≥ (1 : Int) then
      (m_impl_AngleTurns_l8 n y_ x_ x31 x33 v42 m66) (farith .sub .f64 (farith .quo .f64 (4607182418800017408 : Nat) (FloatKind.nearest .f64 v63)) (farith .mul .f64 (farith .mul .f64 v42 v42) v62)) (w64 (v63 - (2 : Int)))
    else
      m_impl_AngleTurns_j4 n y_ x_ x31 x33 v42 v62
def m_impl_AngleTurns_j3 (n : Nat) (y_ : Nat) (x_ : Nat) (x31 : Nat) (x33 : Nat) (v42 : Nat) : Option Nat :=
  m_impl_AngleTurns_l8 n y_ x_ x31 x33 v42 n (0 : Nat) (15 : Int)
def m_impl_AngleTurns_l9 (n : Nat) (y_ : Nat) (x_ : Nat) (x31 : Nat) (x33 : Nat) : Nat → Nat → Int → Option Nat
  | 0, _, _ => none
  | m76 + 1, v71, v72 =>
    if v72 < (3 : Int) then
      (m_math_Sqrt n (farith .add .f64 (4607182418800017408 : Nat) (farith .mul .f64 v71 v71))).bind fun x79 =>
      (m_impl_AngleTurns_l9 n y_ x_ x31 x33 m76) (farith .quo .f64 v71 (farith .add .f64 (4607182418800017408 : Nat) x79)) (w64 (v72 + (1 : Int)))
    else
      m_impl_AngleTurns_j3 n y_ x_ x31 x33 v71
def m_impl_AngleTurns_j2 (n : Nat) (y_ : Nat) (x_ : Nat) (x31 : Nat) (x33 : Nat) (v35 : Nat) : Option Nat :=
  m_impl_AngleTurns_l9 n y_ x_ x31 x33 n v35 (0 : Int)
def m_impl_AngleTurns_j1 (n : Nat) (y_ : Nat) (x_ : Nat) : Option Nat :=
  (fconv .f32 .f64 y_).bind fun x30 =>
  (m_math_Abs n x30).bind fun x31 =>
  (fconv .f32 .f64 x_).bind fun x32 =>
  (m_math_Abs n x32).bind fun x33 =>
  if (fcmp .gtr .f64 x31 x33) = true then
    m_impl_AngleTurns_j2 n y_ x_ x31 x33 (farith .quo .f64 x33 x31)
  else
    m_impl_AngleTurns_j2 n y_ x_ x31 x33 (farith .quo .f64 x31 x33)
def m_impl_AngleTurns_j10 (n : Nat) (y_ : Nat) (x_ : Nat) (v89 : Bool) : Option Nat :=
  if v89 = true then
    some (0 : Nat)
  else
    m_impl_AngleTurns_j1 n y_ x_
def m_impl_AngleTurns (n : Nat) (y_ : Nat) (x_ : Nat) : Option Nat :=
  (m_impl_finite n [y_, x_]).bind fun x83 =>
  if x83 = true then
    if (fcmp .eql .f32 x_ (0 : Nat)) = true then
      m_impl_AngleTurns_j10 n y_ x_ (fcmp .eql .f32 y_ (0 : Nat))
    else
      m_impl_AngleTurns_j10 n y_ x_ false
  else
    (m_math_NaN n).bind fun x85 =>
    (fconv .f64 .f32 x85).bind fun x86 =>
    some x86
theorem impl_AngleTurns_ok_fr0 (fr : Bool) (n : Nat) (y_ : Nat) (x_ : Nat) {r : Nat} (h : m_impl_AngleTurns n y_ x_ = some r) : ACall prog fr 35 [.d (.fl .f32 y_), .d (.fl .f32 x_)] [] (fun v o new => v = .d (.fl .f32 r) ∧ o = [] ∧ new = []) := by
  refine acall_of_aw hτ func35 rfl (by simp) (by simp) ?_
  unfold m_impl_AngleTurns at h
  refine aw_seq ?_
  refine aw_region ?_
  refine awl_val hτ rfl rfl rfl ?_
  refine awl_nil ?_
  refine aw_hk1 (ι := Unit) (fun _ => St.of [(0, .d (.fl .f32 y_)), (1, .d (.fl .f32 x_))] [] f35.ntmps 0) (fun _ => m_impl_AngleTurns_j1 n y_ x_ = some r) ?_ (fun hk82 => ?_)
  · rintro ⟨⟩ h
    replace h : m_impl_AngleTurns_j1 n y_ x_ = some r := h
    unfold m_impl_AngleTurns_j1 at h
    refine aw_seq ?_
    refine aw_region ?_
    refine awl_val hτ rfl rfl rfl ?_
    refine bnd_elim h fun x30 hx30 h => ?_
    refine awl_val hτ (v := .d (.fl .f64 x30)) rfl rfl (conv_val hx30) ?_
    refine bnd_elim h fun x31 hx31 h => ?_
    refine awl_callP hτ false [] rfl rfl rfl (enterOk func74 rfl rfl) rfl rfl (by simp) ⟨trivial, trivial⟩ (by repeat' first | exact trivial | refine ⟨?_, ?_⟩) (math_Abs_ok n x30 hx31) ?_
    rintro r0 o0 n0 ⟨rfl, rfl, rfl⟩ -
    refine awl_val hτ rfl rfl rfl ?_
    refine bnd_elim h fun x32 hx32 h => ?_
    refine awl_val hτ (v := .d (.fl .f64 x32)) rfl rfl (conv_val hx32) ?_
    refine bnd_elim h fun x33 hx33 h => ?_
    refine awl_callP hτ false [] rfl rfl rfl (enterOk func74 rfl rfl) rfl rfl (by simp) ⟨trivial, trivial⟩ (by repeat' first | exact trivial | refine ⟨?_, ?_⟩) (math_Abs_ok n x32 hx33) ?_
    rintro r0 o0 n0 ⟨rfl, rfl, rfl⟩ -
    refine awl_val hτ rfl rfl rfl ?_
    refine awl_val hτ rfl rfl rfl ?_
    refine awl_nil ?_
    refine aw_seq ?_
    refine aw_weak (weak_ofP [] (l := [(0, .d (.fl .f32 y_)), (1, .d (.fl .f32 x_)), (5, .d (.fl .f64 x31)), (6, .d (.fl .f64 x33))]) (objs := []) rfl (by simp) rfl (by repeat' first | exact trivial | refine ⟨?_, ?_⟩) ⟨rfl, trivial, rfl, trivial, rfl, trivial, rfl, trivial, trivial⟩) ?_
    refine aw_region ?_
    refine awl_val hτ rfl rfl rfl ?_
    refine awl_val hτ rfl rfl rfl ?_
    refine awl_val hτ rfl rfl rfl ?_
    refine awl_val hτ rfl rfl rfl ?_
    refine awl_nil ?_
    refine aw_hk1 (ι := Nat) (fun v35 => St.of [(0, .d (.fl .f32 y_)), (1, .d (.fl .f32 x_)), (5, .d (.fl .f64 x31)), (6, .d (.fl .f64 x33)), (7, .d (.fl .f64 v35))] [] f35.ntmps 0) (fun v35 => m_impl_AngleTurns_j2 n y_ x_ x31 x33 v35 = some r) ?_ (fun hk80 => ?_)
    · rintro v35 h
      replace h : m_impl_AngleTurns_j2 n y_ x_ x31 x33 v35 = some r := h
      unfold m_impl_AngleTurns_j2 at h
      refine aw_hk1 (ι := Nat) (fun v42 => St.of [(0, .d (.fl .f32 y_)), (1, .d (.fl .f32 x_)), (5, .d (.fl .f64 x31)), (6, .d (.fl .f64 x33)), (7, .d (.fl .f64 v42))] [] f35.ntmps 0) (fun v42 => m_impl_AngleTurns_j3 n y_ x_ x31 x33 v42 = some r) ?_ (fun hk69 => ?_)
      · rintro v42 h
        replace h : m_impl_AngleTurns_j3 n y_ x_ x31 x33 v42 = some r := h
        unfold m_impl_AngleTurns_j3 at h
        refine aw_seq ?_
        refine aw_region ?_
        refine awl_val hτ rfl rfl rfl ?_
        refine awl_val hτ rfl rfl rfl ?_
        refine awl_val hτ rfl rfl rfl ?_
        refine awl_val hτ rfl rfl rfl ?_
        refine awl_val hτ rfl rfl rfl ?_
        refine awl_nil ?_
        refine aw_hk1 (ι := Nat) (fun v47 => St.of [(0, .d (.fl .f32 y_)), (1, .d (.fl .f32 x_)), (5, .d (.fl .f64 x31)), (6, .d (.fl .f64 x33)), (7, .d (.fl .f64 v42)), (9, .d (.fl .f64 v47))] [] f35.ntmps 0) (fun v47 => m_impl_AngleTurns_j4 n y_ x_ x31 x33 v42 v47 = some r) ?_ (fun hk61 => ?_)
        · rintro v47 h
          replace h : m_impl_AngleTurns_j4 n y_ x_ x31 x33 v42 v47 = some r := h
          unfold m_impl_AngleTurns_j4 at h
          refine aw_seq ?_
          refine aw_region ?_
          refine awl_val hτ rfl rfl rfl ?_
          refine awl_val hτ rfl rfl rfl ?_
          refine awl_val hτ rfl rfl rfl ?_
          refine awl_val hτ rfl rfl rfl ?_
          refine awl_val hτ rfl rfl rfl ?_
          refine awl_val hτ rfl rfl rfl ?_
          refine awl_nil ?_
          refine aw_hk1 (ι := Nat) (fun v49 => St.of [(0, .d (.fl .f32 y_)), (1, .d (.fl .f32 x_)), (11, .d (.fl .f64 v49))] [] f35.ntmps 0) (fun v49 => m_impl_AngleTurns_j5 n y_ x_ v49 = some r) ?_ (fun hk59 => ?_)
          · rintro v49 h
            replace h : m_impl_AngleTurns_j5 n y_ x_ v49 = some r := h
            unfold m_impl_AngleTurns_j5 at h
            refine aw_hk1 (ι := Nat) (fun v51 => St.of [(0, .d (.fl .f32 y_)), (11, .d (.fl .f64 v51))] [] f35.ntmps 0) (fun v51 => m_impl_AngleTurns_j6 n y_ v51 = some r) ?_ (fun hk57 => ?_)
            · rintro v51 h
              replace h : m_impl_AngleTurns_j6 n y_ v51 = some r := h
              unfold m_impl_AngleTurns_j6 at h
              refine aw_hk1 (ι := Nat) (fun v53 => St.of [(11, .d (.fl .f64 v53))] [] f35.ntmps 0) (fun v53 => m_impl_AngleTurns_j7 n v53 = some r) ?_ (fun hk55 => ?_)
              · rintro v53 h
                replace h : m_impl_AngleTurns_j7 n v53 = some r := h
                unfold m_impl_AngleTurns_j7 at h
                refine aw_seq ?_
                refine aw_region ?_
                refine awl_val hτ rfl rfl rfl ?_
                refine bnd_elim h fun x54 hx54 h => ?_
                refine awl_val hτ (v := .d (.fl .f32 x54)) rfl rfl (conv_val hx54) ?_
                refine awl_val hτ rfl rfl rfl ?_
                refine awl_nil ?_
                refine aw_weak (weak_ofP [] (l := [(4, .d (.fl .f32 x54))]) (objs := []) rfl (by simp) rfl (by repeat' first | exact trivial | refine ⟨?_, ?_⟩) ⟨rfl, trivial, trivial⟩) ?_
                refine aw_ret ?_
                have hr := Option.some.inj h
                subst hr
                exact ret_objs (.inr rfl) [] (objs' := []) (new := []) rfl (by simp) (by simp) rfl (by repeat' first | exact trivial | refine ⟨?_, ?_⟩) rfl rfl (by repeat' first | exact trivial | refine ⟨?_, ?_⟩) (fun _ => ⟨by simp [V.flat, V.flatA, V.flatC, D.flat], flat_nil⟩) ⟨rfl, rfl, rfl⟩
              · refine aw_seq ?_
                refine aw_seq ?_
                refine aw_region ?_
                refine awl_val hτ rfl rfl rfl ?_
                refine awl_val hτ rfl rfl rfl ?_
                refine awl_nil ?_
                refine aw_cond rfl (fun hc56 => ?_) (fun hc56 => ?_)
                · have h := if_bt h hc56
                  refine aw_region ?_
                  refine awl_val hτ rfl rfl rfl ?_
                  refine awl_val hτ rfl rfl rfl ?_
                  refine awl_val hτ rfl rfl rfl ?_
                  refine awl_nil ?_
                  refine aw_weak (weak_ofP [] (l := [(11, .d (.fl .f64 (fneg .f64 v51)))]) (objs := []) rfl (by simp) rfl (by repeat' first | exact trivial | refine ⟨?_, ?_⟩) ⟨rfl, trivial, trivial⟩) ?_
                  exact hk55 (fneg .f64 v51) h
                · have h := if_bf h hc56
                  refine aw_skip ?_
                  refine aw_weak (weak_ofP [] (l := [(11, .d (.fl .f64 v51))]) (objs := []) rfl (by simp) rfl (by repeat' first | exact trivial | refine ⟨?_, ?_⟩) ⟨rfl, trivial, trivial⟩) ?_
                  exact hk55 v51 h
            · refine aw_seq ?_
              refine aw_seq ?_
              refine aw_region ?_
              refine awl_val hτ rfl rfl rfl ?_
              refine awl_val hτ rfl rfl rfl ?_
              refine awl_nil ?_
              refine aw_cond rfl (fun hc58 => ?_) (fun hc58 => ?_)
              · have h := if_bt h hc58
                refine aw_region ?_
                refine awl_val hτ rfl rfl rfl ?_
                refine awl_val hτ rfl rfl rfl ?_
                refine awl_val hτ rfl rfl rfl ?_
                refine awl_nil ?_
                refine aw_weak (weak_ofP [] (l := [(0, .d (.fl .f32 y_)), (11, .d (.fl .f64 (farith .sub .f64 (4602678819172646912 : Nat) v49)))]) (objs := []) rfl (by simp) rfl (by repeat' first | exact trivial | refine ⟨?_, ?_⟩) ⟨rfl, trivial, rfl, trivial, trivial⟩) ?_
                exact hk57 (farith .sub .f64 (4602678819172646912 : Nat) v49) h
              · have h := if_bf h hc58
                refine aw_skip ?_
                refine aw_weak (weak_ofP [] (l := [(0, .d (.fl .f32 y_)), (11, .d (.fl .f64 v49))]) (objs := []) rfl (by simp) rfl (by repeat' first | exact trivial | refine ⟨?_, ?_⟩) ⟨rfl, trivial, rfl, trivial, trivial⟩) ?_
                exact hk57 v49 h
          · refine aw_seq ?_
            refine aw_seq ?_
            refine aw_weak (weak_ofP [] (l := [(0, .d (.fl .f32 y_)), (1, .d (.fl .f32 x_)), (5, .d (.fl .f64 x31)), (6, .d (.fl .f64 x33)), (11, .d (.fl .f64 (farith .quo .f64 (farith .mul .f64 (4620693217682128896 : Nat) (farith .mul .f64 v42 v47)) (4618760256179416344 : Nat))))]) (objs := []) rfl (by simp) rfl (by repeat' first | exact trivial | refine ⟨?_, ?_⟩) ⟨rfl, trivial, rfl, trivial, rfl, trivial, rfl, trivial, rfl, trivial, trivial⟩) ?_
            refine aw_region ?_
            refine awl_val hτ rfl rfl rfl ?_
            refine awl_val hτ rfl rfl rfl ?_
            refine awl_val hτ rfl rfl rfl ?_
            refine awl_nil ?_
            refine aw_cond rfl (fun hc60 => ?_) (fun hc60 => ?_)
            · have h := if_bt h hc60
              refine aw_region ?_
              refine awl_val hτ rfl rfl rfl ?_
              refine awl_val hτ rfl rfl rfl ?_
              refine awl_val hτ rfl rfl rfl ?_
              refine awl_nil ?_
              refine aw_weak (weak_ofP [] (l := [(0, .d (.fl .f32 y_)), (1, .d (.fl .f32 x_)), (11, .d (.fl .f64 (farith .sub .f64 (4598175219545276416 : Nat) (farith .quo .f64 (farith .mul .f64 (4620693217682128896 : Nat) (farith .mul .f64 v42 v47)) (4618760256179416344 : Nat)))))]) (objs := []) rfl (by simp) rfl (by repeat' first | exact trivial | refine ⟨?_, ?_⟩) ⟨rfl, trivial, rfl, trivial, rfl, trivial, trivial⟩) ?_
              exact hk59 (farith .sub .f64 (4598175219545276416 : Nat) (farith .quo .f64 (farith .mul .f64 (4620693217682128896 : Nat) (farith .mul .f64 v42 v47)) (4618760256179416344 : Nat))) h
            · have h := if_bf h hc60
              refine aw_skip ?_
              refine aw_weak (weak_ofP [] (l := [(0, .d (.fl .f32 y_)), (1, .d (.fl .f32 x_)), (11, .d (.fl .f64 (farith .quo .f64 (farith .mul .f64 (4620693217682128896 : Nat) (farith .mul .f64 v42 v47)) (4618760256179416344 : Nat))))]) (objs := []) rfl (by simp) rfl (by repeat' first | exact trivial | refine ⟨?_, ?_⟩) ⟨rfl, trivial, rfl, trivial, rfl, trivial, trivial⟩) ?_
              exact hk59 (farith .quo .f64 (farith .mul .f64 (4620693217682128896 : Nat) (farith .mul .f64 v42 v47)) (4618760256179416344 : Nat)) h
        · refine aw_seq ?_
          refine aw_seq ?_
          refine aw_region ?_
          refine awl_val hτ rfl rfl rfl ?_
          refine awl_nil ?_
          refine aw_block ?_
          refine aw_loop (ι := Nat × Nat × Int) (fun (m66, v62, v63) => St.of [(0, .d (.fl .f32 y_)), (1, .d (.fl .f32 x_)), (5, .d (.fl .f64 x31)), (6, .d (.fl .f64 x33)), (7, .d (.fl .f64 v42)), (8, .d (.fl .f64 (farith .mul .f64 v42 v42))), (9, .d (.fl .f64 v62)), (10, .d (.int .i64 v63))] [] f35.ntmps 0) (fun (m66, v62, v63) => m_impl_AngleTurns_l8 n y_ x_ x31 x33 v42 m66 v62 v63 = some r) (fun x => x.1) (n, (0 : Nat), (15 : Int)) h (weak_ofP [] (l := [(0, .d (.fl .f32 y_)), (1, .d (.fl .f32 x_)), (5, .d (.fl .f64 x31)), (6, .d (.fl .f64 x33)), (7, .d (.fl .f64 v42)), (8, .d (.fl .f64 (farith .mul .f64 v42 v42))), (9, .d (.fl .f64 (0 : Nat))), (10, .d (.int .i64 (15 : Int)))]) (objs := []) rfl (by simp) rfl (by repeat' first | exact trivial | refine ⟨?_, ?_⟩) ⟨rfl, trivial, rfl, trivial, rfl, trivial, rfl, trivial, rfl, trivial, rfl, trivial, rfl, trivial, rfl, trivial, trivial⟩) ?_
          rintro ⟨m66, v62, v63⟩ h
          replace h : m_impl_AngleTurns_l8 n y_ x_ x31 x33 v42 m66 v62 v63 = some r := h
          rcases m66 with _ | m66
          · rw [m_impl_AngleTurns_l8] at h; cases h
          rw [m_impl_AngleTurns_l8] at h
          refine aw_seq ?_
          refine aw_seq ?_
          refine aw_region ?_
          refine awl_val hτ rfl rfl rfl ?_
          refine awl_val hτ rfl rfl rfl ?_
          refine awl_nil ?_
          refine aw_cond rfl (fun hc68 => ?_) (fun hc68 => ?_)
          · have h := if_t h hc68
            refine aw_skip ?_
            refine aw_seq ?_
            refine aw_block ?_
            refine aw_region ?_
            refine awl_val hτ rfl rfl rfl ?_
            refine awl_val hτ rfl rfl rfl ?_
            refine awl_val hτ rfl rfl rfl ?_
            refine awl_val hτ rfl rfl rfl ?_
            refine awl_val hτ rfl rfl rfl ?_
            refine awl_val hτ rfl rfl rfl ?_
            refine awl_val hτ rfl rfl rfl ?_
            refine awl_val hτ rfl rfl rfl ?_
            refine awl_nil ?_
            refine aw_weak (weak_ofP [] (l := [(0, .d (.fl .f32 y_)), (1, .d (.fl .f32 x_)), (5, .d (.fl .f64 x31)), (6, .d (.fl .f64 x33)), (7, .d (.fl .f64 v42)), (8, .d (.fl .f64 (farith .mul .f64 v42 v42))), (9, .d (.fl .f64 (farith .sub .f64 (farith .quo .f64 (4607182418800017408 : Nat) (FloatKind.nearest .f64 v63)) (farith .mul .f64 (farith .mul .f64 v42 v42) v62)))), (10, .d (.int .i64 v63))]) (objs := []) rfl (by simp) rfl (by repeat' first | exact trivial | refine ⟨?_, ?_⟩) ⟨rfl, trivial, rfl, trivial, rfl, trivial, rfl, trivial, rfl, trivial, rfl, trivial, rfl, trivial, rfl, trivial, trivial⟩) ?_
            refine aw_region ?_
            refine awl_val hτ rfl rfl rfl ?_
            refine awl_val hτ rfl rfl rfl ?_
            refine awl_val hτ rfl rfl rfl ?_
            refine awl_nil ?_
            exact ⟨(m66, (farith .sub .f64 (farith .quo .f64 (4607182418800017408 : Nat) (FloatKind.nearest .f64 v63)) (farith .mul .f64 (farith .mul .f64 v42 v42) v62)), (w64 (v63 - (2 : Int)))), h, Nat.lt_succ_self m66, (weak_ofP [] (l := [(0, .d (.fl .f32 y_)), (1, .d (.fl .f32 x_)), (5, .d (.fl .f64 x31)), (6, .d (.fl .f64 x33)), (7, .d (.fl .f64 v42)), (8, .d (.fl .f64 (farith .mul .f64 v42 v42))), (9, .d (.fl .f64 (farith .sub .f64 (farith .quo .f64 (4607182418800017408 : Nat) (FloatKind.nearest .f64 v63)) (farith .mul .f64 (farith .mul .f64 v42 v42) v62)))), (10, .d (.int .i64 (w64 (v63 - (2 : Int)))))]) (objs := []) rfl (by simp) rfl (by repeat' first | exact trivial | refine ⟨?_, ?_⟩) ⟨rfl, trivial, rfl, trivial, rfl, trivial, rfl, trivial, rfl, trivial, rfl, trivial, rfl, trivial, rfl, trivial, trivial⟩)⟩
          · have h := if_f h hc68
            refine aw_exit ?_
            refine aw_weak (weak_ofP [] (l := [(0, .d (.fl .f32 y_)), (1, .d (.fl .f32 x_)), (5, .d (.fl .f64 x31)), (6, .d (.fl .f64 x33)), (7, .d (.fl .f64 v42)), (9, .d (.fl .f64 v62))]) (objs := []) rfl (by simp) rfl (by repeat' first | exact trivial | refine ⟨?_, ?_⟩) ⟨rfl, trivial, rfl, trivial, rfl, trivial, rfl, trivial, rfl, trivial, rfl, trivial, trivial⟩) ?_
            exact hk61 v62 h
      · refine aw_seq ?_
        refine aw_seq ?_
        refine aw_region ?_
        refine awl_val hτ rfl rfl rfl ?_
        refine awl_nil ?_
        refine aw_block ?_
        refine aw_loop (ι := Nat × Nat × Int) (fun (m76, v71, v72) => St.of [(0, .d (.fl .f32 y_)), (1, .d (.fl .f32 x_)), (5, .d (.fl .f64 x31)), (6, .d (.fl .f64 x33)), (7, .d (.fl .f64 v71)), (42, .d (.int .i64 v72))] [] f35.ntmps 0) (fun (m76, v71, v72) => m_impl_AngleTurns_l9 n y_ x_ x31 x33 m76 v71 v72 = some r) (fun x => x.1) (n, v35, (0 : Int)) h (weak_ofP [] (l := [(0, .d (.fl .f32 y_)), (1, .d (.fl .f32 x_)), (5, .d (.fl .f64 x31)), (6, .d (.fl .f64 x33)), (7, .d (.fl .f64 v35)), (42, .d (.int .i64 (0 : Int)))]) (objs := []) rfl (by simp) rfl (by repeat' first | exact trivial | refine ⟨?_, ?_⟩) ⟨rfl, trivial, rfl, trivial, rfl, trivial, rfl, trivial, rfl, trivial, rfl, trivial, trivial⟩) ?_
        rintro ⟨m76, v71, v72⟩ h
        replace h : m_impl_AngleTurns_l9 n y_ x_ x31 x33 m76 v71 v72 = some r := h
        rcases m76 with _ | m76
        · rw [m_impl_AngleTurns_l9] at h; cases h
        rw [m_impl_AngleTurns_l9] at h
        refine aw_seq ?_
        refine aw_region ?_
        refine awl_val hτ rfl rfl rfl ?_
        refine awl_nil ?_
        refine aw_seq ?_
        refine aw_cond rfl (fun hc78 => ?_) (fun hc78 => ?_)
        · have h := if_t h hc78
          refine aw_skip ?_
          refine aw_seq ?_
          refine aw_block ?_
          refine aw_region ?_
          refine awl_val hτ rfl rfl rfl ?_
          refine awl_val hτ rfl rfl rfl ?_
          refine awl_val hτ rfl rfl rfl ?_
          refine awl_val hτ rfl rfl rfl ?_
          refine awl_val hτ rfl rfl rfl ?_
          refine bnd_elim h fun x79 hx79 h => ?_
          refine awl_callP hτ false [] rfl rfl rfl (enterOk func48 rfl rfl) rfl rfl (by simp) ⟨trivial, trivial⟩ (by repeat' first | exact trivial | refine ⟨?_, ?_⟩) (math_Sqrt_ok n (farith .add .f64 (4607182418800017408 : Nat) (farith .mul .f64 v71 v71)) hx79) ?_
          rintro r0 o0 n0 ⟨rfl, rfl, rfl⟩ -
          refine awl_val hτ rfl rfl rfl ?_
          refine awl_val hτ rfl rfl rfl ?_
          refine awl_val hτ rfl rfl rfl ?_
          refine awl_nil ?_
          refine aw_weak (weak_ofP [] (l := [(0, .d (.fl .f32 y_)), (1, .d (.fl .f32 x_)), (5, .d (.fl .f64 x31)), (6, .d (.fl .f64 x33)), (7, .d (.fl .f64 (farith .quo .f64 v71 (farith .add .f64 (4607182418800017408 : Nat) x79)))), (42, .d (.int .i64 v72))]) (objs := []) rfl (by simp) rfl (by repeat' first | exact trivial | refine ⟨?_, ?_⟩) ⟨rfl, trivial, rfl, trivial, rfl, trivial, rfl, trivial, rfl, trivial, rfl, trivial, trivial⟩) ?_
          refine aw_region ?_
          refine awl_val hτ rfl rfl rfl ?_
          refine awl_val hτ rfl rfl rfl ?_
          refine awl_nil ?_
          exact ⟨(m76, (farith .quo .f64 v71 (farith .add .f64 (4607182418800017408 : Nat) x79)), (w64 (v72 + (1 : Int)))), h, Nat.lt_succ_self m76, (weak_ofP [] (l := [(0, .d (.fl .f32 y_)), (1, .d (.fl .f32 x_)), (5, .d (.fl .f64 x31)), (6, .d (.fl .f64 x33)), (7, .d (.fl .f64 (farith .quo .f64 v71 (farith .add .f64 (4607182418800017408 : Nat) x79)))), (42, .d (.int .i64 (w64 (v72 + (1 : Int)))))]) (objs := []) rfl (by simp) rfl (by repeat' first | exact trivial | refine ⟨?_, ?_⟩) ⟨rfl, trivial, rfl, trivial, rfl, trivial, rfl, trivial, rfl, trivial, rfl, trivial, trivial⟩)⟩
        · have h := if_f h hc78
          refine aw_exit ?_
          refine aw_weak (weak_ofP [] (l := [(0, .d (.fl .f32 y_)), (1, .d (.fl .f32 x_)), (5, .d (.fl .f64 x31)), (6, .d (.fl .f64 x33)), (7, .d (.fl .f64 v71))]) (objs := []) rfl (by simp) rfl (by repeat' first | exact trivial | refine ⟨?_, ?_⟩) ⟨rfl, trivial, rfl, trivial, rfl, trivial, rfl, trivial, rfl, trivial, trivial⟩) ?_
          exact hk69 v71 h
    · refine aw_seq ?_
      refine aw_seq ?_
      refine aw_region ?_
      refine awl_val hτ rfl rfl rfl ?_
      refine awl_val hτ rfl rfl rfl ?_
      refine awl_val hτ rfl rfl rfl ?_
      refine awl_nil ?_
      refine aw_weak (weak_ofP [] (l := [(0, .d (.fl .f32 y_)), (1, .d (.fl .f32 x_)), (5, .d (.fl .f64 x31)), (6, .d (.fl .f64 x33)), (7, .d (.fl .f64 (farith .quo .f64 x31 x33))), (38, .d (.bool (fcmp .gtr .f64 x31 x33)))]) (objs := []) rfl (by simp) rfl (by repeat' first | exact trivial | refine ⟨?_, ?_⟩) ⟨rfl, trivial, rfl, trivial, rfl, trivial, rfl, trivial, rfl, trivial, rfl, trivial, trivial⟩) ?_
      refine aw_cond rfl (fun hc81 => ?_) (fun hc81 => ?_)
      · have h := if_bt h hc81
        refine aw_region ?_
        refine awl_val hτ rfl rfl rfl ?_
        refine awl_val hτ rfl rfl rfl ?_
        refine awl_val hτ rfl rfl rfl ?_
        refine awl_val hτ rfl rfl rfl ?_
        refine awl_nil ?_
        refine aw_weak (weak_ofP [] (l := [(0, .d (.fl .f32 y_)), (1, .d (.fl .f32 x_)), (5, .d (.fl .f64 x31)), (6, .d (.fl .f64 x33)), (7, .d (.fl .f64 (farith .quo .f64 x33 x31)))]) (objs := []) rfl (by simp) rfl (by repeat' first | exact trivial | refine ⟨?_, ?_⟩) ⟨rfl, trivial, rfl, trivial, rfl, trivial, rfl, trivial, rfl, trivial, trivial⟩) ?_
        exact hk80 (farith .quo .f64 x33 x31) h
      · have h := if_bf h hc81
        refine aw_skip ?_
        refine aw_weak (weak_ofP [] (l := [(0, .d (.fl .f32 y_)), (1, .d (.fl .f32 x_)), (5, .d (.fl .f64 x31)), (6, .d (.fl .f64 x33)), (7, .d (.fl .f64 (farith .quo .f64 x31 x33)))]) (objs := []) rfl (by simp) rfl (by repeat' first | exact trivial | refine ⟨?_, ?_⟩) ⟨rfl, trivial, rfl, trivial, rfl, trivial, rfl, trivial, rfl, trivial, trivial⟩) ?_
        exact hk80 (farith .quo .f64 x31 x33) h
  · refine aw_seq ?_
    refine aw_block ?_
    refine aw_seq ?_
    refine aw_region ?_
    refine awl_val hτ rfl rfl rfl ?_
    refine awl_val hτ rfl rfl rfl ?_
    refine awl_valH hτ rfl rfl rfl ?_
    refine awl_weak (weak_ofP [0] (l := [(0, .d (.fl .f32 y_)), (1, .d (.fl .f32 x_)), (15, .row 0 ([y_, x_].length) 0 ([y_, x_].length))]) (objs := [.row 1 ([y_, x_].map eNatf32)]) rfl (by simp) rfl (by repeat' first | exact trivial | refine ⟨?_, ?_⟩) ⟨rfl, trivial, rfl, trivial, rfl, trivial, trivial⟩) ?_
    refine bnd_elim h fun x83 hx83 h => ?_
    refine awl_callP hτ true [] rfl rfl rfl (enterOk func67 rfl rfl) (mapO_cons (exV_view (f := eNatf32) [y_, x_] rfl rfl rfl) mapO_nil) rfl (by simp) ⟨(exVP_view (f := eNatf32) [y_, x_] rfl rfl rfl), trivial⟩ (by repeat' first | exact trivial | refine ⟨?_, ?_⟩) (impl_finite_ok_fr n [y_, x_] hx83) ?_
    rintro r0 o0 n0 ⟨rfl, rfl, rfl⟩ -
    refine awl_val hτ rfl rfl rfl ?_
    refine awl_val hτ rfl rfl rfl ?_
    refine awl_nil ?_
    refine aw_cond rfl (fun hc84 => ?_) (fun hc84 => ?_)
    · have hc84 := not_t hc84
      have h := if_bf h hc84
      refine aw_seq ?_
      refine aw_region ?_
      refine bnd_elim h fun x85 hx85 h => ?_
      refine awl_callP hτ false [] rfl rfl rfl (enterOk func73 rfl rfl) rfl rfl (by simp) trivial (by repeat' first | exact trivial | refine ⟨?_, ?_⟩) (math_NaN_ok n hx85) ?_
      rintro r0 o0 n0 ⟨rfl, rfl, rfl⟩ -
      refine bnd_elim h fun x86 hx86 h => ?_
      refine awl_val hτ (v := .d (.fl .f32 x86)) rfl rfl (conv_val hx86) ?_
      refine awl_val hτ rfl rfl rfl ?_
      refine awl_nil ?_
      refine aw_weak (weak_ofP [] (l := [(4, .d (.fl .f32 x86))]) (objs := []) rfl (by simp) rfl (by repeat' first | exact trivial | refine ⟨?_, ?_⟩) ⟨rfl, trivial, trivial⟩) ?_
      refine aw_ret ?_
      have hr := Option.some.inj h
      subst hr
      exact ret_objs (.inr rfl) [] (objs' := []) (new := []) rfl (by simp) (by simp) rfl (by repeat' first | exact trivial | refine ⟨?_, ?_⟩) rfl rfl (by repeat' first | exact trivial | refine ⟨?_, ?_⟩) (fun _ => ⟨by simp [V.flat, V.flatA, V.flatC, D.flat], flat_nil⟩) ⟨rfl, rfl, rfl⟩
    · have hc84 := not_f hc84
      have h := if_bt h hc84
      refine aw_hk1 (ι := Bool) (fun v89 => St.of [(0, .d (.fl .f32 y_)), (1, .d (.fl .f32 x_)), (20, .d (.bool v89))] [] f35.ntmps 0) (fun v89 => m_impl_AngleTurns_j10 n y_ x_ v89 = some r) ?_ (fun hk91 => ?_)
      · rintro v89 h
        replace h : m_impl_AngleTurns_j10 n y_ x_ v89 = some r := h
        unfold m_impl_AngleTurns_j10 at h
        refine aw_cond rfl (fun hc90 => ?_) (fun hc90 => ?_)
        · have h := if_bt h hc90
          refine aw_seq ?_
          refine aw_region ?_
          refine awl_val hτ rfl rfl rfl ?_
          refine awl_nil ?_
          refine aw_weak (weak_ofP [] (l := [(4, .d (.fl .f32 (0 : Nat)))]) (objs := []) rfl (by simp) rfl (by repeat' first | exact trivial | refine ⟨?_, ?_⟩) ⟨rfl, trivial, trivial⟩) ?_
          refine aw_ret ?_
          have hr := Option.some.inj h
          subst hr
          exact ret_objs (.inr rfl) [] (objs' := []) (new := []) rfl (by simp) (by simp) rfl (by repeat' first | exact trivial | refine ⟨?_, ?_⟩) rfl rfl (by repeat' first | exact trivial | refine ⟨?_, ?_⟩) (fun _ => ⟨by simp [V.flat, V.flatA, V.flatC, D.flat], flat_nil⟩) ⟨rfl, rfl, rfl⟩
        · have h := if_bf h hc90
          refine aw_skip ?_
          refine aw_weak (weak_ofP [] (l := [(0, .d (.fl .f32 y_)), (1, .d (.fl .f32 x_))]) (objs := []) rfl (by simp) rfl (by repeat' first | exact trivial | refine ⟨?_, ?_⟩) ⟨rfl, trivial, rfl, trivial, trivial⟩) ?_
          exact hk82 () h
      · refine aw_seq ?_
        refine aw_region ?_
        refine awl_val hτ rfl rfl rfl ?_
        refine awl_val hτ rfl rfl rfl ?_
        refine awl_val hτ rfl rfl rfl ?_
        refine awl_split 23 rfl (fun hb92 => ?_) (fun hb92 => ?_)
        · have h := if_bt h hb92
          refine awl_val hτ rfl rfl rfl ?_
          refine awl_val hτ rfl rfl rfl ?_
          refine awl_val hτ rfl rfl rfl ?_
          refine awl_val hτ rfl rfl rfl ?_
          refine awl_nil ?_
          refine aw_weak (weak_ofP [] (l := [(0, .d (.fl .f32 y_)), (1, .d (.fl .f32 x_)), (20, .d (.bool (fcmp .eql .f32 y_ (0 : Nat))))]) (objs := []) rfl (by simp) rfl (by repeat' first | exact trivial | refine ⟨?_, ?_⟩) ⟨rfl, trivial, rfl, trivial, rfl, trivial, trivial⟩) ?_
          exact hk91 (fcmp .eql .f32 y_ (0 : Nat)) h
        · have h := if_bf h hb92
          refine awl_skip rfl rfl ?_
          refine awl_skip rfl rfl ?_
          refine awl_val hτ rfl rfl rfl ?_
          refine awl_val hτ rfl rfl rfl ?_
          refine awl_nil ?_
          refine aw_weak (weak_ofP [] (l := [(0, .d (.fl .f32 y_)), (1, .d (.fl .f32 x_)), (20, .d (.bool false))]) (objs := []) rfl (by simp) rfl (by repeat' first | exact trivial | refine ⟨?_, ?_⟩) ⟨rfl, trivial, rfl, trivial, rfl, trivial, trivial⟩) ?_
          exact hk91 false h
theorem impl_AngleTurns_ok (n : Nat) (y_ : Nat) (x_ : Nat) {r : Nat} (h : m_impl_AngleTurns n y_ x_ = some r) : ACall prog false 35 [.d (.fl .f32 y_), .d (.fl .f32 x_)] [] (fun v o new => v = .d (.fl .f32 r) ∧ o = [] ∧ new = []) := impl_AngleTurns_ok_fr0 false n y_ x_ h
theorem impl_AngleTurns_ok_fr (n : Nat) (y_ : Nat) (x_ : Nat) {r : Nat} (h : m_impl_AngleTurns n y_ x_ = some r) : ACall prog true 35 [.d (.fl .f32 y_), .d (.fl .f32 x_)] [] (fun v o new => v = .d (.fl .f32 r) ∧ o = [] ∧ new = []) := impl_AngleTurns_ok_fr0 true n y_ x_ h

def m_impl_AngleOf (n : Nat) (x_ : Cx) : Option Nat :=
  (m_impl_AngleTurns n x_.im x_.re).bind fun x2 =>
  some x2
theorem impl_AngleOf_ok_fr0 (fr : Bool) (n : Nat) (x_ : Cx) {r : Nat} (h : m_impl_AngleOf n x_ = some r) : ACall prog fr 36 [.d (.cx .f32 x_.re x_.im)] [] (fun v o new => v = .d (.fl .f32 r) ∧ o = [] ∧ new = []) := by
  refine acall_of_aw hτ func36 rfl (by simp) (by simp) ?_
  unfold m_impl_AngleOf at h
  refine aw_seq ?_
  refine aw_region ?_
  refine awl_val hτ rfl rfl rfl ?_
  refine awl_nil ?_
  refine aw_seq ?_
  refine aw_region ?_
  refine awl_val hτ rfl rfl rfl ?_
  refine awl_val hτ rfl rfl rfl ?_
  refine awl_val hτ rfl rfl rfl ?_
  refine awl_val hτ rfl rfl rfl ?_
  refine bnd_elim h fun x2 hx2 h => ?_
  refine awl_callP hτ false [] rfl rfl rfl (enterOk func35 rfl rfl) rfl rfl (by simp) ⟨trivial, trivial, trivial⟩ (by repeat' first | exact trivial | refine ⟨?_, ?_⟩) (impl_AngleTurns_ok n x_.im x_.re hx2) ?_
  rintro r0 o0 n0 ⟨rfl, rfl, rfl⟩ -
  refine awl_val hτ rfl rfl rfl ?_
  refine awl_nil ?_
  refine aw_weak (weak_ofP [] (l := [(2, .d (.fl .f32 x2))]) (objs := []) rfl (by simp) rfl (by repeat' first | exact trivial | refine ⟨?_, ?_⟩) ⟨rfl, trivial, trivial⟩) ?_
  refine aw_ret ?_
  have hr := Option.some.inj h
  subst hr
  exact ret_objs (.inr rfl) [] (objs' := []) (new := []) rfl (by simp) (by simp) rfl (by repeat' first | exact trivial | refine ⟨?_, ?_⟩) rfl rfl (by repeat' first | exact trivial | refine ⟨?_, ?_⟩) (fun _ => ⟨by simp [V.flat, V.flatA, V.flatC, D.flat], flat_nil⟩) ⟨rfl, rfl, rfl⟩
theorem impl_AngleOf_ok (n : Nat) (x_ : Cx) {r : Nat} (h : m_impl_AngleOf n x_ = some r) : ACall prog false 36 [.d (.cx .f32 x_.re x_.im)] [] (fun v o new => v = .d (.fl .f32 r) ∧ o = [] ∧ new = []) := impl_AngleOf_ok_fr0 false n x_ h
theorem impl_AngleOf_ok_fr (n : Nat) (x_ : Cx) {r : Nat} (h : m_impl_AngleOf n x_ = some r) : ACall prog true 36 [.d (.cx .f32 x_.re x_.im)] [] (fun v o new => v = .d (.fl .f32 r) ∧ o = [] ∧ new = []) := impl_AngleOf_ok_fr0 true n x_ h

def m_impl_NarrowNumber (n : Nat) (x_ : Nat) : Option Nat :=
  (fconv .f64 .f32 x_).bind fun x2 =>
  some x2
theorem impl_NarrowNumber_ok_fr0 (fr : Bool) (n : Nat) (x_ : Nat) {r : Nat} (h : m_impl_NarrowNumber n x_ = some r) : ACall prog fr 37 [.d (.fl .f64 x_)] [] (fun v o new => v = .d (.fl .f32 r) ∧ o = [] ∧ new = []) := by
  refine acall_of_aw hτ func37 rfl (by simp) (by simp) ?_
  unfold m_impl_NarrowNumber at h
  refine aw_seq ?_
  refine aw_region ?_
  refine awl_val hτ rfl rfl rfl ?_
  refine awl_nil ?_
  refine aw_seq ?_
  refine aw_region ?_
  refine awl_val hτ rfl rfl rfl ?_
  refine bnd_elim h fun x2 hx2 h => ?_
  refine awl_val hτ (v := .d (.fl .f32 x2)) rfl rfl (conv_val hx2) ?_
  refine awl_val hτ rfl rfl rfl ?_
  refine awl_nil ?_
  refine aw_weak (weak_ofP [] (l := [(2, .d (.fl .f32 x2))]) (objs := []) rfl (by simp) rfl (by repeat' first | exact trivial | refine ⟨?_, ?_⟩) ⟨rfl, trivial, trivial⟩) ?_
  refine aw_ret ?_
  have hr := Option.some.inj h
  subst hr
  exact ret_objs (.inr rfl) [] (objs' := []) (new := []) rfl (by simp) (by simp) rfl (by repeat' first | exact trivial | refine ⟨?_, ?_⟩) rfl rfl (by repeat' first | exact trivial | refine ⟨?_, ?_⟩) (fun _ => ⟨by simp [V.flat, V.flatA, V.flatC, D.flat], flat_nil⟩) ⟨rfl, rfl, rfl⟩
theorem impl_NarrowNumber_ok (n : Nat) (x_ : Nat) {r : Nat} (h : m_impl_NarrowNumber n x_ = some r) : ACall prog false 37 [.d (.fl .f64 x_)] [] (fun v o new => v = .d (.fl .f32 r) ∧ o = [] ∧ new = []) := impl_NarrowNumber_ok_fr0 false n x_ h
theorem impl_NarrowNumber_ok_fr (n : Nat) (x_ : Nat) {r : Nat} (h : m_impl_NarrowNumber n x_ = some r) : ACall prog true 37 [.d (.fl .f64 x_)] [] (fun v o new => v = .d (.fl .f32 r) ∧ o = [] ∧ new = []) := impl_NarrowNumber_ok_fr0 true n x_ h

def m_impl_nan (n : Nat) : Option Nat :=
  (m_math_NaN n).bind fun x3 =>
  (fconv .f64 .f32 x3).bind fun x4 =>
  some x4
theorem impl_nan_ok_fr0 (fr : Bool) (n : Nat) {r : Nat} (h : m_impl_nan n = some r) : ACall prog fr 76 [] [] (fun v o new => v = .d (.fl .f32 r) ∧ o = [] ∧ new = []) := by
  refine acall_of_aw hτ func76 rfl (by simp) (by simp) ?_
  unfold m_impl_nan at h
  refine aw_seq ?_
  refine aw_region ?_
  refine awl_val hτ rfl rfl rfl ?_
  refine awl_nil ?_
  refine aw_seq ?_
  refine aw_region ?_
  refine bnd_elim h fun x3 hx3 h => ?_
  refine awl_callP hτ false [] rfl rfl rfl (enterOk func73 rfl rfl) rfl rfl (by simp) trivial (by repeat' first | exact trivial | refine ⟨?_, ?_⟩) (math_NaN_ok n hx3) ?_
  rintro r0 o0 n0 ⟨rfl, rfl, rfl⟩ -
  refine bnd_elim h fun x4 hx4 h => ?_
  refine awl_val hτ (v := .d (.fl .f32 x4)) rfl rfl (conv_val hx4) ?_
  refine awl_val hτ rfl rfl rfl ?_
  refine awl_nil ?_
  refine aw_weak (weak_ofP [] (l := [(0, .d (.fl .f32 x4))]) (objs := []) rfl (by simp) rfl (by repeat' first | exact trivial | refine ⟨?_, ?_⟩) ⟨rfl, trivial, trivial⟩) ?_
  refine aw_ret ?_
  have hr := Option.some.inj h
  subst hr
  exact ret_objs (.inr rfl) [] (objs' := []) (new := []) rfl (by simp) (by simp) rfl (by repeat' first | exact trivial | refine ⟨?_, ?_⟩) rfl rfl (by repeat' first | exact trivial | refine ⟨?_, ?_⟩) (fun _ => ⟨by simp [V.flat, V.flatA, V.flatC, D.flat], flat_nil⟩) ⟨rfl, rfl, rfl⟩
theorem impl_nan_ok (n : Nat) {r : Nat} (h : m_impl_nan n = some r) : ACall prog false 76 [] [] (fun v o new => v = .d (.fl .f32 r) ∧ o = [] ∧ new = []) := impl_nan_ok_fr0 false n h
theorem impl_nan_ok_fr (n : Nat) {r : Nat} (h : m_impl_nan n = some r) : ACall prog true 76 [] [] (fun v o new => v = .d (.fl .f32 r) ∧ o = [] ∧ new = []) := impl_nan_ok_fr0 true n h

def m_math_Trunc (n : Nat) (x_ : Nat) : Option Nat :=
  grd (isnan .f64 x_ = false) <|
  some (fint .zero x_)
theorem math_Trunc_ok_fr0 (fr : Bool) (n : Nat) (x_ : Nat) {r : Nat} (h : m_math_Trunc n x_ = some r) : ACall prog fr 121 [.d (.fl .f64 x_)] [] (fun v o new => v = .d (.fl .f64 r) ∧ o = [] ∧ new = []) := by
  refine acall_of_aw hτ func121 rfl (by simp) (by simp) ?_
  unfold m_math_Trunc at h
  refine aw_seq ?_
  refine aw_region ?_
  refine awl_val hτ rfl rfl rfl ?_
  refine awl_nil ?_
  refine aw_seq ?_
  refine aw_cond (b := true) rfl (fun _ => ?_) (fun hd => nomatch hd)
  refine aw_seq ?_
  refine aw_region ?_
  refine awl_val hτ rfl rfl rfl ?_
  refine grd_elim h fun hg3 h => ?_
  refine awl_ext hτ rfl rfl rfl (ext136 hg3) ?_
  refine awl_val hτ rfl rfl rfl ?_
  refine awl_nil ?_
  refine aw_weak (weak_ofP [] (l := [(2, .d (.fl .f64 (fint .zero x_)))]) (objs := []) rfl (by simp) rfl (by repeat' first | exact trivial | refine ⟨?_, ?_⟩) ⟨rfl, trivial, trivial⟩) ?_
  refine aw_ret ?_
  have hr := Option.some.inj h
  subst hr
  exact ret_objs (.inr rfl) [] (objs' := []) (new := []) rfl (by simp) (by simp) rfl (by repeat' first | exact trivial | refine ⟨?_, ?_⟩) rfl rfl (by repeat' first | exact trivial | refine ⟨?_, ?_⟩) (fun _ => ⟨by simp [V.flat, V.flatA, V.flatC, D.flat], flat_nil⟩) ⟨rfl, rfl, rfl⟩
theorem math_Trunc_ok (n : Nat) (x_ : Nat) {r : Nat} (h : m_math_Trunc n x_ = some r) : ACall prog false 121 [.d (.fl .f64 x_)] [] (fun v o new => v = .d (.fl .f64 r) ∧ o = [] ∧ new = []) := math_Trunc_ok_fr0 false n x_ h
theorem math_Trunc_ok_fr (n : Nat) (x_ : Nat) {r : Nat} (h : m_math_Trunc n x_ = some r) : ACall prog true 121 [.d (.fl .f64 x_)] [] (fun v o new => v = .d (.fl .f64 r) ∧ o = [] ∧ new = []) := math_Trunc_ok_fr0 true n x_ h

def m_impl_partOf_j1 (n : Nat) (v6 : Nat) : Option Nat :=
  if (fcmp .lss .f64 v6 (0 : Nat)) = true then
    some (farith .add .f64 v6 (4607182418800017408 : Nat))
  else
    some v6
def m_impl_partOf (n : Nat) (f_ : Nat) : Option Nat :=
  (m_math_Trunc n f_).bind fun x9 =>
  if (fcmp .neq .f64 x9 (0 : Nat)) = true then
    m_impl_partOf_j1 n (farith .sub .f64 f_ x9)
  else
    m_impl_partOf_j1 n f_
theorem impl_partOf_ok_fr0 (fr : Bool) (n : Nat) (f_ : Nat) {r : Nat} (h : m_impl_partOf n f_ = some r) : ACall prog fr 101 [.d (.fl .f64 f_)] [] (fun v o new => v = .d (.fl .f64 r) ∧ o = [] ∧ new = []) := by
  refine acall_of_aw hτ func101 rfl (by simp) (by simp) ?_
  unfold m_impl_partOf at h
  refine aw_seq ?_
  refine aw_region ?_
  refine awl_val hτ rfl rfl rfl ?_
  refine awl_nil ?_
  refine aw_hk1 (ι := Nat) (fun v6 => St.of [(0, .d (.fl .f64 v6))] [] f101.ntmps 0) (fun v6 => m_impl_partOf_j1 n v6 = some r) ?_ (fun hk8 => ?_)
  · rintro v6 h
    replace h : m_impl_partOf_j1 n v6 = some r := h
    unfold m_impl_partOf_j1 at h
    refine aw_seq ?_
    refine aw_seq ?_
    refine aw_region ?_
    refine awl_val hτ rfl rfl rfl ?_
    refine awl_val hτ rfl rfl rfl ?_
    refine awl_nil ?_
    refine aw_cond rfl (fun hc7 => ?_) (fun hc7 => ?_)
    · have h := if_bt h hc7
      refine aw_region ?_
      refine awl_val hτ rfl rfl rfl ?_
      refine awl_val hτ rfl rfl rfl ?_
      refine awl_val hτ rfl rfl rfl ?_
      refine awl_nil ?_
      refine aw_seq ?_
      refine aw_region ?_
      refine awl_val hτ rfl rfl rfl ?_
      refine awl_val hτ rfl rfl rfl ?_
      refine awl_nil ?_
      refine aw_weak (weak_ofP [] (l := [(2, .d (.fl .f64 (farith .add .f64 v6 (4607182418800017408 : Nat))))]) (objs := []) rfl (by simp) rfl (by repeat' first | exact trivial | refine ⟨?_, ?_⟩) ⟨rfl, trivial, trivial⟩) ?_
      refine aw_ret ?_
      have hr := Option.some.inj h
      subst hr
      exact ret_objs (.inr rfl) [] (objs' := []) (new := []) rfl (by simp) (by simp) rfl (by repeat' first | exact trivial | refine ⟨?_, ?_⟩) rfl rfl (by repeat' first | exact trivial | refine ⟨?_, ?_⟩) (fun _ => ⟨by simp [V.flat, V.flatA, V.flatC, D.flat], flat_nil⟩) ⟨rfl, rfl, rfl⟩
    · have h := if_bf h hc7
      refine aw_skip ?_
      refine aw_seq ?_
      refine aw_region ?_
      refine awl_val hτ rfl rfl rfl ?_
      refine awl_val hτ rfl rfl rfl ?_
      refine awl_nil ?_
      refine aw_weak (weak_ofP [] (l := [(2, .d (.fl .f64 v6))]) (objs := []) rfl (by simp) rfl (by repeat' first | exact trivial | refine ⟨?_, ?_⟩) ⟨rfl, trivial, trivial⟩) ?_
      refine aw_ret ?_
      have hr := Option.some.inj h
      subst hr
      exact ret_objs (.inr rfl) [] (objs' := []) (new := []) rfl (by simp) (by simp) rfl (by repeat' first | exact trivial | refine ⟨?_, ?_⟩) rfl rfl (by repeat' first | exact trivial | refine ⟨?_, ?_⟩) (fun _ => ⟨by simp [V.flat, V.flatA, V.flatC, D.flat], flat_nil⟩) ⟨rfl, rfl, rfl⟩
  · refine aw_seq ?_
    refine aw_seq ?_
    refine aw_region ?_
    refine awl_val hτ rfl rfl rfl ?_
    refine bnd_elim h fun x9 hx9 h => ?_
    refine awl_callP hτ false [] rfl rfl rfl (enterOk func121 rfl rfl) rfl rfl (by simp) ⟨trivial, trivial⟩ (by repeat' first | exact trivial | refine ⟨?_, ?_⟩) (math_Trunc_ok n f_ hx9) ?_
    rintro r0 o0 n0 ⟨rfl, rfl, rfl⟩ -
    refine awl_val hτ rfl rfl rfl ?_
    refine awl_nil ?_
    refine aw_seq ?_
    refine aw_region ?_
    refine awl_val hτ rfl rfl rfl ?_
    refine awl_val hτ rfl rfl rfl ?_
    refine awl_nil ?_
    refine aw_weak (weak_ofP [] (l := [(0, .d (.fl .f64 f_)), (3, .d (.fl .f64 x9)), (7, .d (.bool (fcmp .neq .f64 x9 (0 : Nat))))]) (objs := []) rfl (by simp) rfl (by repeat' first | exact trivial | refine ⟨?_, ?_⟩) ⟨rfl, trivial, rfl, trivial, rfl, trivial, trivial⟩) ?_
    refine aw_cond rfl (fun hc10 => ?_) (fun hc10 => ?_)
    · have h := if_bt h hc10
      refine aw_region ?_
      refine awl_val hτ rfl rfl rfl ?_
      refine awl_val hτ rfl rfl rfl ?_
      refine awl_val hτ rfl rfl rfl ?_
      refine awl_val hτ rfl rfl rfl ?_
      refine awl_nil ?_
      refine aw_weak (weak_ofP [] (l := [(0, .d (.fl .f64 (farith .sub .f64 f_ x9)))]) (objs := []) rfl (by simp) rfl (by repeat' first | exact trivial | refine ⟨?_, ?_⟩) ⟨rfl, trivial, trivial⟩) ?_
      exact hk8 (farith .sub .f64 f_ x9) h
    · have h := if_bf h hc10
      refine aw_skip ?_
      refine aw_weak (weak_ofP [] (l := [(0, .d (.fl .f64 f_))]) (objs := []) rfl (by simp) rfl (by repeat' first | exact trivial | refine ⟨?_, ?_⟩) ⟨rfl, trivial, trivial⟩) ?_
      exact hk8 f_ h
theorem impl_partOf_ok (n : Nat) (f_ : Nat) {r : Nat} (h : m_impl_partOf n f_ = some r) : ACall prog false 101 [.d (.fl .f64 f_)] [] (fun v o new => v = .d (.fl .f64 r) ∧ o = [] ∧ new = []) := impl_partOf_ok_fr0 false n f_ h
theorem impl_partOf_ok_fr (n : Nat) (f_ : Nat) {r : Nat} (h : m_impl_partOf n f_ = some r) : ACall prog true 101 [.d (.fl .f64 f_)] [] (fun v o new => v = .d (.fl .f64 r) ∧ o = [] ∧ new = []) := impl_partOf_ok_fr0 true n f_ h

def m_impl_sine_j3 (n : Nat) (x8 : Nat) (v12 : Nat) (v17 : Nat) : Option Nat :=
  if (fcmp .geq .f64 x8 (4602678819172646912 : Nat)) = true then
    some (fneg .f64 (farith .mul .f64 (farith .mul .f64 v12 (4618760256179416344 : Nat)) v17))
  else
    some (farith .mul .f64 (farith .mul .f64 v12 (4618760256179416344 : Nat)) v17)
def m_impl_sine_l4 (n : Nat) (x8 : Nat) (v12 : Nat) : Nat → Nat → Int → Option Nat
  | 0, _, _ => none
  | m24 + 1, v20, v21 =>
    if v21 ≥ (1 : Int) then
      (m_impl_sine_l4 n x8 v12 m24) (farith .sub .f64 (4607182418800017408 : Nat) (farith .quo .f64 (farith .mul .f64 (farith .mul .f64 (farith .mul .f64 v12 (4618760256179416344 : Nat)) (farith .mul .f64 v12 (4618760256179416344 : Nat))) v20) (FloatKind.nearest .f64 (w64 ((w64 ((2 : Int) * v21)) * (w64 ((w64 ((2 : Int) * v21)) + (1 : Int)))))))) (w64 (v21 - (1 : Int)))
    else
      m_impl_sine_j3 n x8 v12 v20
def m_impl_sine_j2 (n : Nat) (x8 : Nat) (v12 : Nat) : Option Nat :=
  m_impl_sine_l4 n x8 v12 n (4607182418800017408 : Nat) (8 : Int)
def m_impl_sine_j1 (n : Nat) (x8 : Nat) (v10 : Nat) : Option Nat :=
  if (fcmp .gtr .f64 v10 (4598175219545276416 : Nat)) = true then
    m_impl_sine_j2 n x8 (farith .sub .f64 (4602678819172646912 : Nat) v10)
  else
    m_impl_sine_j2 n x8 v10
def m_impl_sine (n : Nat) (turns_ : Nat) : Option Nat :=
  (m_impl_partOf n turns_).bind fun x8 =>
  if (fcmp .geq .f64 x8 (4602678819172646912 : Nat)) = true then
    m_impl_sine_j1 n x8 (farith .sub .f64 x8 (4602678819172646912 : Nat))
  else
    m_impl_sine_j1 n x8 x8
theorem impl_sine_ok_fr0 (fr : Bool) (n : Nat) (turns_ : Nat) {r : Nat} (h : m_impl_sine n turns_ = some r) : ACall prog fr 77 [.d (.fl .f64 turns_)] [] (fun v o new => v = .d (.fl .f64 r) ∧ o = [] ∧ new = []) := by
  refine acall_of_aw hτ func77 rfl (by simp) (by simp) ?_
  unfold m_impl_sine at h
  refine aw_seq ?_
  refine aw_region ?_
  refine awl_val hτ rfl rfl rfl ?_
  refine awl_nil ?_
  refine aw_seq ?_
  refine aw_region ?_
  refine awl_val hτ rfl rfl rfl ?_
  refine bnd_elim h fun x8 hx8 h => ?_
  refine awl_callP hτ false [] rfl rfl rfl (enterOk func101 rfl rfl) rfl rfl (by simp) ⟨trivial, trivial⟩ (by repeat' first | exact trivial | refine ⟨?_, ?_⟩) (impl_partOf_ok n turns_ hx8) ?_
  rintro r0 o0 n0 ⟨rfl, rfl, rfl⟩ -
  refine awl_val hτ rfl rfl rfl ?_
  refine awl_nil ?_
  refine aw_seq ?_
  refine aw_region ?_
  refine awl_val hτ rfl rfl rfl ?_
  refine awl_val hτ rfl rfl rfl ?_
  refine awl_val hτ rfl rfl rfl ?_
  refine awl_nil ?_
  refine aw_hk1 (ι := Nat) (fun v10 => St.of [(3, .d (.fl .f64 v10)), (4, .d (.bool (fcmp .geq .f64 x8 (4602678819172646912 : Nat))))] [] f77.ntmps 0) (fun v10 => m_impl_sine_j1 n x8 v10 = some r) ?_ (fun hk29 => ?_)
  · rintro v10 h
    replace h : m_impl_sine_j1 n x8 v10 = some r := h
    unfold m_impl_sine_j1 at h
    refine aw_hk1 (ι := Nat) (fun v12 => St.of [(3, .d (.fl .f64 v12)), (4, .d (.bool (fcmp .geq .f64 x8 (4602678819172646912 : Nat))))] [] f77.ntmps 0) (fun v12 => m_impl_sine_j2 n x8 v12 = some r) ?_ (fun hk27 => ?_)
    · rintro v12 h
      replace h : m_impl_sine_j2 n x8 v12 = some r := h
      unfold m_impl_sine_j2 at h
      refine aw_seq ?_
      refine aw_region ?_
      refine awl_val hτ rfl rfl rfl ?_
      refine awl_val hτ rfl rfl rfl ?_
      refine awl_val hτ rfl rfl rfl ?_
      refine awl_nil ?_
      refine aw_seq ?_
      refine aw_region ?_
      refine awl_val hτ rfl rfl rfl ?_
      refine awl_val hτ rfl rfl rfl ?_
      refine awl_val hτ rfl rfl rfl ?_
      refine awl_val hτ rfl rfl rfl ?_
      refine awl_val hτ rfl rfl rfl ?_
      refine awl_nil ?_
      refine aw_hk1 (ι := Nat) (fun v17 => St.of [(4, .d (.bool (fcmp .geq .f64 x8 (4602678819172646912 : Nat)))), (5, .d (.fl .f64 (farith .mul .f64 v12 (4618760256179416344 : Nat)))), (7, .d (.fl .f64 v17))] [] f77.ntmps 0) (fun v17 => m_impl_sine_j3 n x8 v12 v17 = some r) ?_ (fun hk19 => ?_)
      · rintro v17 h
        replace h : m_impl_sine_j3 n x8 v12 v17 = some r := h
        unfold m_impl_sine_j3 at h
        refine aw_seq ?_
        refine aw_seq ?_
        refine aw_region ?_
        refine awl_val hτ rfl rfl rfl ?_
        refine awl_nil ?_
        refine aw_cond rfl (fun hc18 => ?_) (fun hc18 => ?_)
        · have h := if_bt h hc18
          refine aw_seq ?_
          refine aw_region ?_
          refine awl_val hτ rfl rfl rfl ?_
          refine awl_val hτ rfl rfl rfl ?_
          refine awl_val hτ rfl rfl rfl ?_
          refine awl_val hτ rfl rfl rfl ?_
          refine awl_val hτ rfl rfl rfl ?_
          refine awl_nil ?_
          refine aw_weak (weak_ofP [] (l := [(2, .d (.fl .f64 (fneg .f64 (farith .mul .f64 (farith .mul .f64 v12 (4618760256179416344 : Nat)) v17))))]) (objs := []) rfl (by simp) rfl (by repeat' first | exact trivial | refine ⟨?_, ?_⟩) ⟨rfl, trivial, trivial⟩) ?_
          refine aw_ret ?_
          have hr := Option.some.inj h
          subst hr
          exact ret_objs (.inr rfl) [] (objs' := []) (new := []) rfl (by simp) (by simp) rfl (by repeat' first | exact trivial | refine ⟨?_, ?_⟩) rfl rfl (by repeat' first | exact trivial | refine ⟨?_, ?_⟩) (fun _ => ⟨by simp [V.flat, V.flatA, V.flatC, D.flat], flat_nil⟩) ⟨rfl, rfl, rfl⟩
        · have h := if_bf h hc18
          refine aw_skip ?_
          refine aw_seq ?_
          refine aw_region ?_
          refine awl_val hτ rfl rfl rfl ?_
          refine awl_val hτ rfl rfl rfl ?_
          refine awl_val hτ rfl rfl rfl ?_
          refine awl_val hτ rfl rfl rfl ?_
          refine awl_nil ?_
          refine aw_weak (weak_ofP [] (l := [(2, .d (.fl .f64 (farith .mul .f64 (farith .mul .f64 v12 (4618760256179416344 : Nat)) v17)))]) (objs := []) rfl (by simp) rfl (by repeat' first | exact trivial | refine ⟨?_, ?_⟩) ⟨rfl, trivial, trivial⟩) ?_
          refine aw_ret ?_
          have hr := Option.some.inj h
          subst hr
          exact ret_objs (.inr rfl) [] (objs' := []) (new := []) rfl (by simp) (by simp) rfl (by repeat' first | exact trivial | refine ⟨?_, ?_⟩) rfl rfl (by repeat' first | exact trivial | refine ⟨?_, ?_⟩) (fun _ => ⟨by simp [V.flat, V.flatA, V.flatC, D.flat], flat_nil⟩) ⟨rfl, rfl, rfl⟩
      · refine aw_seq ?_
        refine aw_seq ?_
        refine aw_weak (weak_ofP [] (l := [(4, .d (.bool (fcmp .geq .f64 x8 (4602678819172646912 : Nat)))), (5, .d (.fl .f64 (farith .mul .f64 v12 (4618760256179416344 : Nat)))), (6, .d (.fl .f64 (farith .mul .f64 (farith .mul .f64 v12 (4618760256179416344 : Nat)) (farith .mul .f64 v12 (4618760256179416344 : Nat))))), (7, .d (.fl .f64 (4607182418800017408 : Nat)))]) (objs := []) rfl (by simp) rfl (by repeat' first | exact trivial | refine ⟨?_, ?_⟩) ⟨rfl, trivial, rfl, trivial, rfl, trivial, rfl, trivial, trivial⟩) ?_
        refine aw_region ?_
        refine awl_val hτ rfl rfl rfl ?_
        refine awl_nil ?_
        refine aw_block ?_
        refine aw_loop (ι := Nat × Nat × Int) (fun (m24, v20, v21) => St.of [(4, .d (.bool (fcmp .geq .f64 x8 (4602678819172646912 : Nat)))), (5, .d (.fl .f64 (farith .mul .f64 v12 (4618760256179416344 : Nat)))), (6, .d (.fl .f64 (farith .mul .f64 (farith .mul .f64 v12 (4618760256179416344 : Nat)) (farith .mul .f64 v12 (4618760256179416344 : Nat))))), (7, .d (.fl .f64 v20)), (8, .d (.int .i64 v21))] [] f77.ntmps 0) (fun (m24, v20, v21) => m_impl_sine_l4 n x8 v12 m24 v20 v21 = some r) (fun x => x.1) (n, (4607182418800017408 : Nat), (8 : Int)) h (weak_ofP [] (l := [(4, .d (.bool (fcmp .geq .f64 x8 (4602678819172646912 : Nat)))), (5, .d (.fl .f64 (farith .mul .f64 v12 (4618760256179416344 : Nat)))), (6, .d (.fl .f64 (farith .mul .f64 (farith .mul .f64 v12 (4618760256179416344 : Nat)) (farith .mul .f64 v12 (4618760256179416344 : Nat))))), (7, .d (.fl .f64 (4607182418800017408 : Nat))), (8, .d (.int .i64 (8 : Int)))]) (objs := []) rfl (by simp) rfl (by repeat' first | exact trivial | refine ⟨?_, ?_⟩) ⟨rfl, trivial, rfl, trivial, rfl, trivial, rfl, trivial, rfl, trivial, trivial⟩) ?_
        rintro ⟨m24, v20, v21⟩ h
        replace h : m_impl_sine_l4 n x8 v12 m24 v20 v21 = some r := h
        rcases m24 with _ | m24
        · rw [m_impl_sine_l4] at h; cases h
        rw [m_impl_sine_l4] at h
        refine aw_seq ?_
        refine aw_seq ?_
        refine aw_region ?_
        refine awl_val hτ rfl rfl rfl ?_
        refine awl_val hτ rfl rfl rfl ?_
        refine awl_nil ?_
        refine aw_cond rfl (fun hc26 => ?_) (fun hc26 => ?_)
        · have h := if_t h hc26
          refine aw_skip ?_
          refine aw_seq ?_
          refine aw_block ?_
          refine aw_region ?_
          refine awl_val hτ rfl rfl rfl ?_
          refine awl_val hτ rfl rfl rfl ?_
          refine awl_val hτ rfl rfl rfl ?_
          refine awl_val hτ rfl rfl rfl ?_
          refine awl_val hτ rfl rfl rfl ?_
          refine awl_val hτ rfl rfl rfl ?_
          refine awl_val hτ rfl rfl rfl ?_
          refine awl_val hτ rfl rfl rfl ?_
          refine awl_val hτ rfl rfl rfl ?_
          refine awl_val hτ rfl rfl rfl ?_
          refine awl_weak (weak_ofP [] (l := [(4, .d (.bool (fcmp .geq .f64 x8 (4602678819172646912 : Nat)))), (5, .d (.fl .f64 (farith .mul .f64 v12 (4618760256179416344 : Nat)))), (6, .d (.fl .f64 (farith .mul .f64 (farith .mul .f64 v12 (4618760256179416344 : Nat)) (farith .mul .f64 v12 (4618760256179416344 : Nat))))), (7, .d (.fl .f64 v20)), (8, .d (.int .i64 v21)), (31, .d (.fl .f64 (farith .mul .f64 (farith .mul .f64 (farith .mul .f64 v12 (4618760256179416344 : Nat)) (farith .mul .f64 v12 (4618760256179416344 : Nat))) v20))), (38, .d (.fl .f64 (FloatKind.nearest .f64 (w64 ((w64 ((2 : Int) * v21)) * (w64 ((w64 ((2 : Int) * v21)) + (1 : Int))))))))]) (objs := []) rfl (by simp) rfl (by repeat' first | exact trivial | refine ⟨?_, ?_⟩) ⟨rfl, trivial, rfl, trivial, rfl, trivial, rfl, trivial, rfl, trivial, rfl, trivial, rfl, trivial, trivial⟩) ?_
          refine awl_val hτ rfl rfl rfl ?_
          refine awl_val hτ rfl rfl rfl ?_
          refine awl_val hτ rfl rfl rfl ?_
          refine awl_nil ?_
          refine aw_region ?_
          refine awl_val hτ rfl rfl rfl ?_
          refine awl_val hτ rfl rfl rfl ?_
          refine awl_val hτ rfl rfl rfl ?_
          refine awl_nil ?_
          exact ⟨(m24, (farith .sub .f64 (4607182418800017408 : Nat) (farith .quo .f64 (farith .mul .f64 (farith .mul .f64 (farith .mul .f64 v12 (4618760256179416344 : Nat)) (farith .mul .f64 v12 (4618760256179416344 : Nat))) v20) (FloatKind.nearest .f64 (w64 ((w64 ((2 : Int) * v21)) * (w64 ((w64 ((2 : Int) * v21)) + (1 : Int)))))))), (w64 (v21 - (1 : Int)))), h, Nat.lt_succ_self m24, (weak_ofP [] (l := [(4, .d (.bool (fcmp .geq .f64 x8 (4602678819172646912 : Nat)))), (5, .d (.fl .f64 (farith .mul .f64 v12 (4618760256179416344 : Nat)))), (6, .d (.fl .f64 (farith .mul .f64 (farith .mul .f64 v12 (4618760256179416344 : Nat)) (farith .mul .f64 v12 (4618760256179416344 : Nat))))), (7, .d (.fl .f64 (farith .sub .f64 (4607182418800017408 : Nat) (farith .quo .f64 (farith .mul .f64 (farith .mul .f64 (farith .mul .f64 v12 (4618760256179416344 : Nat)) (farith .mul .f64 v12 (4618760256179416344 : Nat))) v20) (FloatKind.nearest .f64 (w64 ((w64 ((2 : Int) * v21)) * (w64 ((w64 ((2 : Int) * v21)) + (1 : Int)))))))))), (8, .d (.int .i64 (w64 (v21 - (1 : Int)))))]) (objs := []) rfl (by simp) rfl (by repeat' first | exact trivial | refine ⟨?_, ?_⟩) ⟨rfl, trivial, rfl, trivial, rfl, trivial, rfl, trivial, rfl, trivial, trivial⟩)⟩
        · have h := if_f h hc26
          refine aw_exit ?_
          refine aw_weak (weak_ofP [] (l := [(4, .d (.bool (fcmp .geq .f64 x8 (4602678819172646912 : Nat)))), (5, .d (.fl .f64 (farith .mul .f64 v12 (4618760256179416344 : Nat)))), (7, .d (.fl .f64 v20))]) (objs := []) rfl (by simp) rfl (by repeat' first | exact trivial | refine ⟨?_, ?_⟩) ⟨rfl, trivial, rfl, trivial, rfl, trivial, trivial⟩) ?_
          exact hk19 v20 h
    · refine aw_seq ?_
      refine aw_seq ?_
      refine aw_region ?_
      refine awl_val hτ rfl rfl rfl ?_
      refine awl_val hτ rfl rfl rfl ?_
      refine awl_nil ?_
      refine aw_cond rfl (fun hc28 => ?_) (fun hc28 => ?_)
      · have h := if_bt h hc28
        refine aw_region ?_
        refine awl_val hτ rfl rfl rfl ?_
        refine awl_val hτ rfl rfl rfl ?_
        refine awl_val hτ rfl rfl rfl ?_
        refine awl_nil ?_
        refine aw_weak (weak_ofP [] (l := [(3, .d (.fl .f64 (farith .sub .f64 (4602678819172646912 : Nat) v10))), (4, .d (.bool (fcmp .geq .f64 x8 (4602678819172646912 : Nat))))]) (objs := []) rfl (by simp) rfl (by repeat' first | exact trivial | refine ⟨?_, ?_⟩) ⟨rfl, trivial, rfl, trivial, trivial⟩) ?_
        exact hk27 (farith .sub .f64 (4602678819172646912 : Nat) v10) h
      · have h := if_bf h hc28
        refine aw_skip ?_
        refine aw_weak (weak_ofP [] (l := [(3, .d (.fl .f64 v10)), (4, .d (.bool (fcmp .geq .f64 x8 (4602678819172646912 : Nat))))]) (objs := []) rfl (by simp) rfl (by repeat' first | exact trivial | refine ⟨?_, ?_⟩) ⟨rfl, trivial, rfl, trivial, trivial⟩) ?_
        exact hk27 v10 h
  · refine aw_seq ?_
    refine aw_seq ?_
    refine aw_weak (weak_ofP [] (l := [(3, .d (.fl .f64 x8)), (4, .d (.bool (fcmp .geq .f64 x8 (4602678819172646912 : Nat))))]) (objs := []) rfl (by simp) rfl (by repeat' first | exact trivial | refine ⟨?_, ?_⟩) ⟨rfl, trivial, rfl, trivial, trivial⟩) ?_
    refine aw_region ?_
    refine awl_val hτ rfl rfl rfl ?_
    refine awl_nil ?_
    refine aw_cond rfl (fun hc30 => ?_) (fun hc30 => ?_)
    · have h := if_bt h hc30
      refine aw_region ?_
      refine awl_val hτ rfl rfl rfl ?_
      refine awl_val hτ rfl rfl rfl ?_
      refine awl_val hτ rfl rfl rfl ?_
      refine awl_nil ?_
      refine aw_weak (weak_ofP [] (l := [(3, .d (.fl .f64 (farith .sub .f64 x8 (4602678819172646912 : Nat)))), (4, .d (.bool (fcmp .geq .f64 x8 (4602678819172646912 : Nat))))]) (objs := []) rfl (by simp) rfl (by repeat' first | exact trivial | refine ⟨?_, ?_⟩) ⟨rfl, trivial, rfl, trivial, trivial⟩) ?_
      exact hk29 (farith .sub .f64 x8 (4602678819172646912 : Nat)) h
    · have h := if_bf h hc30
      refine aw_skip ?_
      refine aw_weak (weak_ofP [] (l := [(3, .d (.fl .f64 x8)), (4, .d (.bool (fcmp .geq .f64 x8 (4602678819172646912 : Nat))))]) (objs := []) rfl (by simp) rfl (by repeat' first | exact trivial | refine ⟨?_, ?_⟩) ⟨rfl, trivial, rfl, trivial, trivial⟩) ?_
      exact hk29 x8 h
theorem impl_sine_ok (n : Nat) (turns_ : Nat) {r : Nat} (h : m_impl_sine n turns_ = some r) : ACall prog false 77 [.d (.fl .f64 turns_)] [] (fun v o new => v = .d (.fl .f64 r) ∧ o = [] ∧ new = []) := impl_sine_ok_fr0 false n turns_ h
theorem impl_sine_ok_fr (n : Nat) (turns_ : Nat) {r : Nat} (h : m_impl_sine n turns_ = some r) : ACall prog true 77 [.d (.fl .f64 turns_)] [] (fun v o new => v = .d (.fl .f64 r) ∧ o = [] ∧ new = []) := impl_sine_ok_fr0 true n turns_ h

def m_impl_SineTurns (n : Nat) (x_ : Nat) : Option Nat :=
  (m_impl_IsFinite n x_).bind fun x12 =>
  if x12 = true then
    (fconv .f32 .f64 x_).bind fun x15 =>
    (m_math_Abs n x15).bind fun x16 =>
    if (fcmp .geq .f64 x16 (4841369599423283200 : Nat)) = true then
      some (0 : Nat)
    else
      (fconv .f32 .f64 x_).bind fun x18 =>
      (m_impl_sine n x18).bind fun x19 =>
      (fconv .f64 .f32 x19).bind fun x20 =>
      some x20
  else
    (m_impl_nan n).bind fun x14 =>
    some x14
theorem impl_SineTurns_ok_fr0 (fr : Bool) (n : Nat) (x_ : Nat) {r : Nat} (h : m_impl_SineTurns n x_ = some r) : ACall prog fr 38 [.d (.fl .f32 x_)] [] (fun v o new => v = .d (.fl .f32 r) ∧ o = [] ∧ new = []) := by
  refine acall_of_aw hτ func38 rfl (by simp) (by simp) ?_
  unfold m_impl_SineTurns at h
  refine aw_seq ?_
  refine aw_region ?_
  refine awl_val hτ rfl rfl rfl ?_
  refine awl_nil ?_
  refine aw_seq ?_
  refine aw_block ?_
  refine aw_seq ?_
  refine aw_region ?_
  refine awl_val hτ rfl rfl rfl ?_
  refine bnd_elim h fun x12 hx12 h => ?_
  refine awl_callP hτ false [] rfl rfl rfl (enterOk func75 rfl rfl) rfl rfl (by simp) ⟨trivial, trivial⟩ (by repeat' first | exact trivial | refine ⟨?_, ?_⟩) (impl_IsFinite_ok n x_ hx12) ?_
  rintro r0 o0 n0 ⟨rfl, rfl, rfl⟩ -
  refine awl_val hτ rfl rfl rfl ?_
  refine awl_val hτ rfl rfl rfl ?_
  refine awl_nil ?_
  refine aw_cond rfl (fun hc13 => ?_) (fun hc13 => ?_)
  · have hc13 := not_t hc13
    have h := if_bf h hc13
    refine aw_seq ?_
    refine aw_region ?_
    refine bnd_elim h fun x14 hx14 h => ?_
    refine awl_callP hτ false [] rfl rfl rfl (enterOk func76 rfl rfl) rfl rfl (by simp) trivial (by repeat' first | exact trivial | refine ⟨?_, ?_⟩) (impl_nan_ok n hx14) ?_
    rintro r0 o0 n0 ⟨rfl, rfl, rfl⟩ -
    refine awl_val hτ rfl rfl rfl ?_
    refine awl_nil ?_
    refine aw_weak (weak_ofP [] (l := [(2, .d (.fl .f32 x14))]) (objs := []) rfl (by simp) rfl (by repeat' first | exact trivial | refine ⟨?_, ?_⟩) ⟨rfl, trivial, trivial⟩) ?_
    refine aw_ret ?_
    have hr := Option.some.inj h
    subst hr
    exact ret_objs (.inr rfl) [] (objs' := []) (new := []) rfl (by simp) (by simp) rfl (by repeat' first | exact trivial | refine ⟨?_, ?_⟩) rfl rfl (by repeat' first | exact trivial | refine ⟨?_, ?_⟩) (fun _ => ⟨by simp [V.flat, V.flatA, V.flatC, D.flat], flat_nil⟩) ⟨rfl, rfl, rfl⟩
  · have hc13 := not_f hc13
    have h := if_bt h hc13
    refine aw_seq ?_
    refine aw_region ?_
    refine awl_val hτ rfl rfl rfl ?_
    refine bnd_elim h fun x15 hx15 h => ?_
    refine awl_val hτ (v := .d (.fl .f64 x15)) rfl rfl (conv_val hx15) ?_
    refine bnd_elim h fun x16 hx16 h => ?_
    refine awl_callP hτ false [] rfl rfl rfl (enterOk func74 rfl rfl) rfl rfl (by simp) ⟨trivial, trivial⟩ (by repeat' first | exact trivial | refine ⟨?_, ?_⟩) (math_Abs_ok n x15 hx16) ?_
    rintro r0 o0 n0 ⟨rfl, rfl, rfl⟩ -
    refine awl_val hτ rfl rfl rfl ?_
    refine awl_val hτ rfl rfl rfl ?_
    refine awl_nil ?_
    refine aw_weak (weak_ofP [] (l := [(0, .d (.fl .f32 x_)), (8, .d (.bool (fcmp .geq .f64 x16 (4841369599423283200 : Nat))))]) (objs := []) rfl (by simp) rfl (by repeat' first | exact trivial | refine ⟨?_, ?_⟩) ⟨rfl, trivial, rfl, trivial, trivial⟩) ?_
    refine aw_cond rfl (fun hc17 => ?_) (fun hc17 => ?_)
    · have h := if_bt h hc17
      refine aw_seq ?_
      refine aw_region ?_
      refine awl_val hτ rfl rfl rfl ?_
      refine awl_nil ?_
      refine aw_weak (weak_ofP [] (l := [(2, .d (.fl .f32 (0 : Nat)))]) (objs := []) rfl (by simp) rfl (by repeat' first | exact trivial | refine ⟨?_, ?_⟩) ⟨rfl, trivial, trivial⟩) ?_
      refine aw_ret ?_
      have hr := Option.some.inj h
      subst hr
      exact ret_objs (.inr rfl) [] (objs' := []) (new := []) rfl (by simp) (by simp) rfl (by repeat' first | exact trivial | refine ⟨?_, ?_⟩) rfl rfl (by repeat' first | exact trivial | refine ⟨?_, ?_⟩) (fun _ => ⟨by simp [V.flat, V.flatA, V.flatC, D.flat], flat_nil⟩) ⟨rfl, rfl, rfl⟩
    · have h := if_bf h hc17
      refine aw_skip ?_
      refine aw_seq ?_
      refine aw_region ?_
      refine awl_val hτ rfl rfl rfl ?_
      refine bnd_elim h fun x18 hx18 h => ?_
      refine awl_val hτ (v := .d (.fl .f64 x18)) rfl rfl (conv_val hx18) ?_
      refine bnd_elim h fun x19 hx19 h => ?_
      refine awl_callP hτ false [] rfl rfl rfl (enterOk func77 rfl rfl) rfl rfl (by simp) ⟨trivial, trivial⟩ (by repeat' first | exact trivial | refine ⟨?_, ?_⟩) (impl_sine_ok n x18 hx19) ?_
      rintro r0 o0 n0 ⟨rfl, rfl, rfl⟩ -
      refine bnd_elim h fun x20 hx20 h => ?_
      refine awl_val hτ (v := .d (.fl .f32 x20)) rfl rfl (conv_val hx20) ?_
      refine awl_val hτ rfl rfl rfl ?_
      refine awl_nil ?_
      refine aw_weak (weak_ofP [] (l := [(2, .d (.fl .f32 x20))]) (objs := []) rfl (by simp) rfl (by repeat' first | exact trivial | refine ⟨?_, ?_⟩) ⟨rfl, trivial, trivial⟩) ?_
      refine aw_ret ?_
      have hr := Option.some.inj h
      subst hr
      exact ret_objs (.inr rfl) [] (objs' := []) (new := []) rfl (by simp) (by simp) rfl (by repeat' first | exact trivial | refine ⟨?_, ?_⟩) rfl rfl (by repeat' first | exact trivial | refine ⟨?_, ?_⟩) (fun _ => ⟨by simp [V.flat, V.flatA, V.flatC, D.flat], flat_nil⟩) ⟨rfl, rfl, rfl⟩
theorem impl_SineTurns_ok (n : Nat) (x_ : Nat) {r : Nat} (h : m_impl_SineTurns n x_ = some r) : ACall prog false 38 [.d (.fl .f32 x_)] [] (fun v o new => v = .d (.fl .f32 r) ∧ o = [] ∧ new = []) := impl_SineTurns_ok_fr0 false n x_ h
theorem impl_SineTurns_ok_fr (n : Nat) (x_ : Nat) {r : Nat} (h : m_impl_SineTurns n x_ = some r) : ACall prog true 38 [.d (.fl .f32 x_)] [] (fun v o new => v = .d (.fl .f32 r) ∧ o = [] ∧ new = []) := impl_SineTurns_ok_fr0 true n x_ h

def m_laws_FnNumbers_j3 (n : Nat) (x54 : Nat) (x55 : Nat) : Option Bool :=
  (m_impl_AngleTurns n x55 x54).bind fun x93 =>
  (m_impl_AngleOf n (Cx.mk x54 x55)).bind fun x94 =>
  (m_spec_SameNumber n x93 x94).bind fun x95 =>
  if x95 = true then
    (fconv .f32 .f64 x54).bind fun x97 =>
    (m_impl_NarrowNumber n x97).bind fun x98 =>
    (m_spec_SameNumber n x98 x54).bind fun x99 =>
    if x99 = true then
      (m_impl_SineTurns n (1048576000 : Nat)).bind fun x101 =>
      some (fcmp .eql .f32 x101 (1065353216 : Nat))
    else
      some false
  else
    some false
def m_laws_FnNumbers_l4 (n : Nat) (x54 : Nat) (x55 : Nat) (x60 : List Nat) (x70 : List Nat × Bool) : Nat → Int → Option Bool
  | 0, _ => none
  | m111 + 1, v106 =>
    if v106 < (x60.length : Int) then
      (getI x70.1 v106).bind fun x117 =>
      (getI x60 v106).bind fun x118 =>
      (m_spec_SameNumber n x117 x118).bind fun x119 =>
      if x119 = true then
        (m_laws_FnNumbers_l4 n x54 x55 x60 x70 m111) (w64 (v106 + (1 : Int)))
      else
        some false
    else
      m_laws_FnNumbers_j3 n x54 x55
def m_laws_FnNumbers_j2 (n : Nat) (x54 : Nat) (x55 : Nat) (x60 : List Nat) (x70 : List Nat × Bool) : Option Bool :=
  m_laws_FnNumbers_l4 n x54 x55 x60 x70 n (0 : Int)
def m_laws_FnNumbers_j5 (n : Nat) (x54 : Nat) (x55 : Nat) (x60 : List Nat) (x70 : List Nat × Bool) (v136 : Bool) : Option Bool :=
  if v136 = true then
    some false
  else
    m_laws_FnNumbers_j2 n x54 x55 x60 x70
def m_laws_FnNumbers_j1 (n : Nat) (x54 : Nat) (x55 : Nat) (x57 : Nat × Bool) (x58 : Nat) (x60 : List Nat) (v67 : Nat) : Option Bool :=
  (m_impl_SumNumbers n x60).bind fun x68 =>
  (m_impl_NumbersText n x60).bind fun x69 =>
  (m_impl_ReadNumbers n x69.1).bind fun x70 =>
  if x57.2 = true then
    if x68.2 = true then
      if x69.2 = true then
        if x70.2 = true then
          (m_spec_SameNumber n x57.1 x54).bind fun x143 =>
          if x143 = true then
            (m_impl_IsSubnormal n x58).bind fun x145 =>
            if x145 = true then
              m_laws_FnNumbers_j5 n x54 x55 x60 x70 true
            else
              (m_impl_IsSubnormal n x54).bind fun x147 =>
              (m_spec_SameNumber n x54 x58).bind fun x148 =>
              if (x147 == x148) = true then
                m_laws_FnNumbers_j5 n x54 x55 x60 x70 true
              else
                (m_spec_SameNumber n x68.1 v67).bind fun x150 =>
                if x150 = true then
                  m_laws_FnNumbers_j5 n x54 x55 x60 x70 (!(decide ((x70.1.length : Int) = (x60.length : Int))))
                else
                  m_laws_FnNumbers_j5 n x54 x55 x60 x70 true
          else
            m_laws_FnNumbers_j5 n x54 x55 x60 x70 true
        else
          m_laws_FnNumbers_j5 n x54 x55 x60 x70 true
      else
        m_laws_FnNumbers_j5 n x54 x55 x60 x70 true
    else
      m_laws_FnNumbers_j5 n x54 x55 x60 x70 true
  else
    m_laws_FnNumbers_j5 n x54 x55 x60 x70 true
def m_laws_FnNumbers_l6 (n : Nat) (x54 : Nat) (x55 : Nat) (x57 : Nat × Bool) (x58 : Nat) (x60 : List Nat) : Nat → Nat → Int → Option Bool
  | 0, _, _ => none
  | m159 + 1, v154, v155 =>
    if v155 < (x60.length : Int) then
      (getI x60 v155).bind fun x162 =>
      (m_laws_FnNumbers_l6 n x54 x55 x57 x58 x60 m159) (farith .add .f32 v154 x162) (w64 (v155 + (1 : Int)))
    else
      m_laws_FnNumbers_j1 n x54 x55 x57 x58 x60 v154
def m_laws_FnNumbers (n : Nat) (code_ : List Int) (more_ : List Int) : Option Bool :=
  (m_laws_b10Long n code_ more_).bind fun x52 =>
  if x52 = true then
    some true
  else
    (m_spec_B10Number n code_).bind fun x54 =>
    (m_spec_B10Number n more_).bind fun x55 =>
    (m_impl_BitsOf n x54).bind fun x56 =>
    (m_impl_FromBits n x56).bind fun x57 =>
    (m_impl_FlushNumber n x54).bind fun x58 =>
    (m_laws_b10At n code_ (0 : Int) (12 : Int)).bind fun x59 =>
    (m_spec_B10Numbers n more_ x59).bind fun x60 =>
    m_laws_FnNumbers_l6 n x54 x55 x57 x58 x60 n (0 : Nat) (0 : Int)
theorem laws_FnNumbers_ok_fr0 (fr : Bool) (n : Nat) (code_ : List Int) (more_ : List Int) {r : Bool} (h : m_laws_FnNumbers n code_ more_ = some r) : ACall prog fr 4 [.d (.sl false (code_.map eIntu8)), .d (.sl false (more_.map eIntu8))] [] (fun v o new => v = .d (.bool r) ∧ o = [] ∧ new = []) := by
  refine acall_of_aw hτ func4 rfl (by simp) (by simp) ?_
  unfold m_laws_FnNumbers at h
  refine aw_seq ?_
  refine aw_region ?_
  refine awl_val hτ rfl rfl rfl ?_
  refine awl_nil ?_
  refine aw_seq ?_
  refine aw_seq ?_
  refine aw_region ?_
  refine awl_val hτ rfl rfl rfl ?_
  refine awl_val hτ rfl rfl rfl ?_
  refine bnd_elim h fun x52 hx52 h => ?_
  refine awl_callP hτ false [] rfl rfl rfl (enterOk func6 rfl rfl) rfl rfl (by simp) ⟨trivial, trivial, trivial⟩ (by repeat' first | exact trivial | refine ⟨?_, ?_⟩) (laws_b10Long_ok n code_ more_ hx52) ?_
  rintro r0 o0 n0 ⟨rfl, rfl, rfl⟩ -
  refine awl_nil ?_
  refine aw_cond rfl (fun hc53 => ?_) (fun hc53 => ?_)
  · have h := if_bt h hc53
    refine aw_seq ?_
    refine aw_region ?_
    refine awl_val hτ rfl rfl rfl ?_
    refine awl_nil ?_
    refine aw_weak (weak_ofP [] (l := [(4, .d (.bool true))]) (objs := []) rfl (by simp) rfl (by repeat' first | exact trivial | refine ⟨?_, ?_⟩) ⟨rfl, trivial, trivial⟩) ?_
    refine aw_ret ?_
    have hr := Option.some.inj h
    subst hr
    exact ret_objs (.inr rfl) [] (objs' := []) (new := []) rfl (by simp) (by simp) rfl (by repeat' first | exact trivial | refine ⟨?_, ?_⟩) rfl rfl (by repeat' first | exact trivial | refine ⟨?_, ?_⟩) (fun _ => ⟨by simp [V.flat, V.flatA, V.flatC, D.flat], flat_nil⟩) ⟨rfl, rfl, rfl⟩
  · have h := if_bf h hc53
    refine aw_skip ?_
    refine aw_seq ?_
    refine aw_region ?_
    refine awl_val hτ rfl rfl rfl ?_
    refine bnd_elim h fun x54 hx54 h => ?_
    refine awl_callP hτ false [] rfl rfl rfl (enterOk func20 rfl rfl) rfl rfl (by simp) ⟨trivial, trivial⟩ (by repeat' first | exact trivial | refine ⟨?_, ?_⟩) (spec_B10Number_ok n code_ hx54) ?_
    rintro r0 o0 n0 ⟨rfl, rfl, rfl⟩ -
    refine awl_val hτ rfl rfl rfl ?_
    refine awl_nil ?_
    refine aw_seq ?_
    refine aw_weak (weak_ofP [] (l := [(0, .d (.sl false (code_.map eIntu8))), (1, .d (.sl false (more_.map eIntu8))), (5, .d (.fl .f32 x54))]) (objs := []) rfl (by simp) rfl (by repeat' first | exact trivial | refine ⟨?_, ?_⟩) ⟨rfl, trivial, rfl, trivial, rfl, trivial, trivial⟩) ?_
    refine aw_region ?_
    refine awl_val hτ rfl rfl rfl ?_
    refine bnd_elim h fun x55 hx55 h => ?_
    refine awl_callP hτ false [] rfl rfl rfl (enterOk func20 rfl rfl) rfl rfl (by simp) ⟨trivial, trivial⟩ (by repeat' first | exact trivial | refine ⟨?_, ?_⟩) (spec_B10Number_ok n more_ hx55) ?_
    rintro r0 o0 n0 ⟨rfl, rfl, rfl⟩ -
    refine awl_val hτ rfl rfl rfl ?_
    refine awl_nil ?_
    refine aw_seq ?_
    refine aw_region ?_
    refine awl_val hτ rfl rfl rfl ?_
    refine bnd_elim h fun x56 hx56 h => ?_
    refine awl_callP hτ false [] rfl rfl rfl (enterOk func22 rfl rfl) rfl rfl (by simp) ⟨trivial, trivial⟩ (by repeat' first | exact trivial | refine ⟨?_, ?_⟩) (impl_BitsOf_ok n x54 hx56) ?_
    rintro r0 o0 n0 ⟨rfl, rfl, rfl⟩ -
    refine bnd_elim h fun x57 hx57 h => ?_
    refine awl_callP hτ false [] rfl rfl rfl (enterOk func21 rfl rfl) rfl rfl (by simp) ⟨trivial, trivial⟩ (by repeat' first | exact trivial | refine ⟨?_, ?_⟩) (impl_FromBits_ok n x56 hx57) ?_
    rintro r0 o0 n0 ⟨rfl, rfl, rfl⟩ -
    refine awl_val hτ rfl rfl rfl ?_
    refine awl_val hτ rfl rfl rfl ?_
    refine awl_val hτ rfl rfl rfl ?_
    refine awl_val hτ rfl rfl rfl ?_
    refine awl_val hτ rfl rfl rfl ?_
    refine awl_nil ?_
    refine aw_seq ?_
    refine aw_weak (weak_ofP [] (l := [(0, .d (.sl false (code_.map eIntu8))), (1, .d (.sl false (more_.map eIntu8))), (5, .d (.fl .f32 x54)), (6, .d (.fl .f32 x55)), (7, .d (.fl .f32 x57.1)), (8, .d (.bool x57.2))]) (objs := []) rfl (by simp) rfl (by repeat' first | exact trivial | refine ⟨?_, ?_⟩) ⟨rfl, trivial, rfl, trivial, rfl, trivial, rfl, trivial, rfl, trivial, rfl, trivial, trivial⟩) ?_
    refine aw_region ?_
    refine awl_val hτ rfl rfl rfl ?_
    refine bnd_elim h fun x58 hx58 h => ?_
    refine awl_callP hτ false [] rfl rfl rfl (enterOk func29 rfl rfl) rfl rfl (by simp) ⟨trivial, trivial⟩ (by repeat' first | exact trivial | refine ⟨?_, ?_⟩) (impl_FlushNumber_ok n x54 hx58) ?_
    rintro r0 o0 n0 ⟨rfl, rfl, rfl⟩ -
    refine awl_val hτ rfl rfl rfl ?_
    refine awl_nil ?_
    refine aw_seq ?_
    refine aw_region ?_
    refine awl_val hτ rfl rfl rfl ?_
    refine awl_val hτ rfl rfl rfl ?_
    refine bnd_elim h fun x59 hx59 h => ?_
    refine awl_callP hτ false [] rfl rfl rfl (enterOk func17 rfl rfl) rfl rfl (by simp) ⟨trivial, trivial, trivial, trivial⟩ (by repeat' first | exact trivial | refine ⟨?_, ?_⟩) (laws_b10At_ok n code_ (0 : Int) (12 : Int) hx59) ?_
    rintro r0 o0 n0 ⟨rfl, rfl, rfl⟩ -
    refine bnd_elim h fun x60 hx60 h => ?_
    refine awl_callP hτ false [] rfl rfl rfl (enterOk func30 rfl rfl) rfl rfl (by simp) ⟨trivial, trivial, trivial⟩ (by repeat' first | exact trivial | refine ⟨?_, ?_⟩) (spec_B10Numbers_ok n more_ x59 hx60) ?_
    rintro r0 o0 n0 ⟨rfl, rfl, rfl⟩ -
    refine awl_val hτ rfl rfl rfl ?_
    refine awl_nil ?_
    refine aw_seq ?_
    refine aw_weak (weak_ofP [0] (l := [(5, .d (.fl .f32 x54)), (6, .d (.fl .f32 x55)), (7, .d (.fl .f32 x57.1)), (8, .d (.bool x57.2)), (9, .d (.fl .f32 x58)), (10, .row 0 x60.length 0 x60.length)]) (objs := [.row 1 (x60.map eNatf32)]) rfl (by simp) rfl (by repeat' first | exact trivial | refine ⟨?_, ?_⟩) ⟨rfl, trivial, rfl, trivial, rfl, trivial, rfl, trivial, rfl, trivial, rfl, trivial, trivial⟩) ?_
    refine aw_region ?_
    refine awl_val hτ rfl rfl rfl ?_
    refine awl_nil ?_
    refine aw_hk1 (ι := Nat) (fun v67 => St.of [(5, .d (.fl .f32 x54)), (6, .d (.fl .f32 x55)), (7, .d (.fl .f32 x57.1)), (8, .d (.bool x57.2)), (9, .d (.fl .f32 x58)), (10, .row 0 x60.length 0 x60.length), (11, .d (.fl .f32 v67))] [.row 1 (x60.map eNatf32)] f4.ntmps 0) (fun v67 => m_laws_FnNumbers_j1 n x54 x55 x57 x58 x60 v67 = some r) ?_ (fun hk152 => ?_)
    · rintro v67 h
      replace h : m_laws_FnNumbers_j1 n x54 x55 x57 x58 x60 v67 = some r := h
      unfold m_laws_FnNumbers_j1 at h
      refine aw_seq ?_
      refine aw_region ?_
      refine awl_val hτ rfl rfl rfl ?_
      refine awl_weak (weak_ofP [0] (l := [(5, .d (.fl .f32 x54)), (6, .d (.fl .f32 x55)), (7, .d (.fl .f32 x57.1)), (8, .d (.bool x57.2)), (9, .d (.fl .f32 x58)), (10, .row 0 x60.length 0 x60.length), (11, .d (.fl .f32 v67)), (52, .row 0 x60.length 0 x60.length)]) (objs := [.row 1 (x60.map eNatf32)]) rfl (by simp) rfl (by repeat' first | exact trivial | refine ⟨?_, ?_⟩) ⟨rfl, trivial, rfl, trivial, rfl, trivial, rfl, trivial, rfl, trivial, rfl, trivial, rfl, trivial, rfl, trivial, trivial⟩) ?_
      refine bnd_elim h fun x68 hx68 h => ?_
      refine awl_callP hτ true [] rfl rfl rfl (enterOk func31 rfl rfl) (mapO_cons (exV_view (f := eNatf32) x60 rfl rfl rfl) mapO_nil) rfl (by simp) ⟨(exVP_view (f := eNatf32) x60 rfl rfl rfl), trivial⟩ (by repeat' first | exact trivial | refine ⟨?_, ?_⟩) (impl_SumNumbers_ok_fr n x60 hx68) ?_
      rintro r0 o0 n0 ⟨rfl, rfl, rfl⟩ -
      refine awl_val hτ rfl rfl rfl ?_
      refine awl_val hτ rfl rfl rfl ?_
      refine awl_val hτ rfl rfl rfl ?_
      refine awl_val hτ rfl rfl rfl ?_
      refine awl_val hτ rfl rfl rfl ?_
      refine awl_nil ?_
      refine aw_seq ?_
      refine aw_weak (weak_ofP [0] (l := [(5, .d (.fl .f32 x54)), (6, .d (.fl .f32 x55)), (7, .d (.fl .f32 x57.1)), (8, .d (.bool x57.2)), (9, .d (.fl .f32 x58)), (10, .row 0 x60.length 0 x60.length), (11, .d (.fl .f32 v67)), (13, .d (.fl .f32 x68.1)), (14, .d (.bool x68.2))]) (objs := [.row 1 (x60.map eNatf32)]) rfl (by simp) rfl (by repeat' first | exact trivial | refine ⟨?_, ?_⟩) ⟨rfl, trivial, rfl, trivial, rfl, trivial, rfl, trivial, rfl, trivial, rfl, trivial, rfl, trivial, rfl, trivial, rfl, trivial, trivial⟩) ?_
      refine aw_region ?_
      refine awl_val hτ rfl rfl rfl ?_
      refine awl_weak (weak_ofP [0] (l := [(5, .d (.fl .f32 x54)), (6, .d (.fl .f32 x55)), (7, .d (.fl .f32 x57.1)), (8, .d (.bool x57.2)), (9, .d (.fl .f32 x58)), (10, .row 0 x60.length 0 x60.length), (11, .d (.fl .f32 v67)), (13, .d (.fl .f32 x68.1)), (14, .d (.bool x68.2)), (57, .row 0 x60.length 0 x60.length)]) (objs := [.row 1 (x60.map eNatf32)]) rfl (by simp) rfl (by repeat' first | exact trivial | refine ⟨?_, ?_⟩) ⟨rfl, trivial, rfl, trivial, rfl, trivial, rfl, trivial, rfl, trivial, rfl, trivial, rfl, trivial, rfl, trivial, rfl, trivial, rfl, trivial, trivial⟩) ?_
      refine bnd_elim h fun x69 hx69 h => ?_
      refine awl_callP hτ true [] rfl rfl rfl (enterOk func32 rfl rfl) (mapO_cons (exV_view (f := eNatf32) x60 rfl rfl rfl) mapO_nil) rfl (by simp) ⟨(exVP_view (f := eNatf32) x60 rfl rfl rfl), trivial⟩ (by repeat' first | exact trivial | refine ⟨?_, ?_⟩) (impl_NumbersText_ok_fr n x60 hx69) ?_
      rintro r0 o0 n0 ⟨rfl, rfl, rfl⟩ -
      refine awl_val hτ rfl rfl rfl ?_
      refine awl_val hτ rfl rfl rfl ?_
      refine awl_val hτ rfl rfl rfl ?_
      refine awl_val hτ rfl rfl rfl ?_
      refine awl_val hτ rfl rfl rfl ?_
      refine awl_nil ?_
      refine aw_seq ?_
      refine aw_weak (weak_ofP [0] (l := [(5, .d (.fl .f32 x54)), (6, .d (.fl .f32 x55)), (7, .d (.fl .f32 x57.1)), (8, .d (.bool x57.2)), (9, .d (.fl .f32 x58)), (10, .row 0 x60.length 0 x60.length), (11, .d (.fl .f32 v67)), (13, .d (.fl .f32 x68.1)), (14, .d (.bool x68.2)), (15, .d (.str (bstr x69.1))), (16, .d (.bool x69.2))]) (objs := [.row 1 (x60.map eNatf32)]) rfl (by simp) rfl (by repeat' first | exact trivial | refine ⟨?_, ?_⟩) ⟨rfl, trivial, rfl, trivial, rfl, trivial, rfl, trivial, rfl, trivial, rfl, trivial, rfl, trivial, rfl, trivial, rfl, trivial, rfl, trivial, rfl, trivial, trivial⟩) ?_
      refine aw_region ?_
      refine awl_val hτ rfl rfl rfl ?_
      refine bnd_elim h fun x70 hx70 h => ?_
      refine awl_callP hτ false [] rfl rfl rfl (enterOk func33 rfl rfl) rfl rfl (by simp) ⟨trivial, trivial⟩ (by repeat' first | exact trivial | refine ⟨?_, ?_⟩) (impl_ReadNumbers_ok n x69.1 hx70) ?_
      rintro r0 o0 n0 ⟨rfl, rfl, rfl⟩ -
      refine awl_val hτ rfl rfl rfl ?_
      refine awl_val hτ rfl rfl rfl ?_
      refine awl_val hτ rfl rfl rfl ?_
      refine awl_val hτ rfl rfl rfl ?_
      refine awl_val hτ rfl rfl rfl ?_
      refine awl_nil ?_
      refine aw_hk1 (ι := Unit) (fun _ => St.of [(5, .d (.fl .f32 x54)), (6, .d (.fl .f32 x55)), (10, .row 0 x60.length 0 x60.length), (17, .row 1 x70.1.length 0 x70.1.length)] [.row 1 (x60.map eNatf32), .row 1 (x70.1.map eNatf32)] f4.ntmps 0) (fun _ => m_laws_FnNumbers_j2 n x54 x55 x60 x70 = some r) ?_ (fun hk121 => ?_)
      · rintro ⟨⟩ h
        replace h : m_laws_FnNumbers_j2 n x54 x55 x60 x70 = some r := h
        unfold m_laws_FnNumbers_j2 at h
        refine aw_hk1 (ι := Unit) (fun _ => St.of [(5, .d (.fl .f32 x54)), (6, .d (.fl .f32 x55))] [] f4.ntmps 0) (fun _ => m_laws_FnNumbers_j3 n x54 x55 = some r) ?_ (fun hk102 => ?_)
        · rintro ⟨⟩ h
          replace h : m_laws_FnNumbers_j3 n x54 x55 = some r := h
          unfold m_laws_FnNumbers_j3 at h
          refine aw_seq ?_
          refine aw_region ?_
          refine awl_val hτ rfl rfl rfl ?_
          refine awl_val hτ rfl rfl rfl ?_
          refine bnd_elim h fun x93 hx93 h => ?_
          refine awl_callP hτ false [] rfl rfl rfl (enterOk func35 rfl rfl) rfl rfl (by simp) ⟨trivial, trivial, trivial⟩ (by repeat' first | exact trivial | refine ⟨?_, ?_⟩) (impl_AngleTurns_ok n x55 x54 hx93) ?_
          rintro r0 o0 n0 ⟨rfl, rfl, rfl⟩ -
          refine awl_val hτ rfl rfl rfl ?_
          refine awl_val hτ rfl rfl rfl ?_
          refine awl_val hτ rfl rfl rfl ?_
          refine bnd_elim h fun x94 hx94 h => ?_
          refine awl_callP hτ false [] rfl rfl rfl (enterOk func36 rfl rfl) rfl rfl (by simp) ⟨trivial, trivial⟩ (by repeat' first | exact trivial | refine ⟨?_, ?_⟩) (impl_AngleOf_ok n (Cx.mk x54 x55) hx94) ?_
          rintro r0 o0 n0 ⟨rfl, rfl, rfl⟩ -
          refine bnd_elim h fun x95 hx95 h => ?_
          refine awl_callP hτ false [] rfl rfl rfl (enterOk func11 rfl rfl) rfl rfl (by simp) ⟨trivial, trivial, trivial⟩ (by repeat' first | exact trivial | refine ⟨?_, ?_⟩) (spec_SameNumber_ok n x93 x94 hx95) ?_
          rintro r0 o0 n0 ⟨rfl, rfl, rfl⟩ -
          refine awl_val hτ rfl rfl rfl ?_
          refine awl_split 135 rfl (fun hb96 => ?_) (fun hb96 => ?_)
          · have h := if_bt h hb96
            refine awl_val hτ rfl rfl rfl ?_
            refine bnd_elim h fun x97 hx97 h => ?_
            refine awl_val hτ (v := .d (.fl .f64 x97)) rfl rfl (conv_val hx97) ?_
            refine bnd_elim h fun x98 hx98 h => ?_
            refine awl_callP hτ false [] rfl rfl rfl (enterOk func37 rfl rfl) rfl rfl (by simp) ⟨trivial, trivial⟩ (by repeat' first | exact trivial | refine ⟨?_, ?_⟩) (impl_NarrowNumber_ok n x97 hx98) ?_
            rintro r0 o0 n0 ⟨rfl, rfl, rfl⟩ -
            refine awl_weak (weak_ofP [] (l := [(5, .d (.fl .f32 x54)), (135, .d (.bool true)), (138, .d (.fl .f32 x98))]) (objs := []) rfl (by simp) rfl (by repeat' first | exact trivial | refine ⟨?_, ?_⟩) ⟨rfl, trivial, rfl, trivial, rfl, trivial, trivial⟩) ?_
            refine awl_val hτ rfl rfl rfl ?_
            refine bnd_elim h fun x99 hx99 h => ?_
            refine awl_callP hτ false [] rfl rfl rfl (enterOk func11 rfl rfl) rfl rfl (by simp) ⟨trivial, trivial, trivial⟩ (by repeat' first | exact trivial | refine ⟨?_, ?_⟩) (spec_SameNumber_ok n x98 x54 hx99) ?_
            rintro r0 o0 n0 ⟨rfl, rfl, rfl⟩ -
            refine awl_val hτ rfl rfl rfl ?_
            refine awl_val hτ rfl rfl rfl ?_
            refine awl_split 142 rfl (fun hb100 => ?_) (fun hb100 => ?_)
            · have h := if_bt h hb100
              refine bnd_elim h fun x101 hx101 h => ?_
              refine awl_callP hτ false [] rfl rfl rfl (enterOk func38 rfl rfl) rfl rfl (by simp) ⟨trivial, trivial⟩ (by repeat' first | exact trivial | refine ⟨?_, ?_⟩) (impl_SineTurns_ok n (1048576000 : Nat) hx101) ?_
              rintro r0 o0 n0 ⟨rfl, rfl, rfl⟩ -
              refine awl_val hτ rfl rfl rfl ?_
              refine awl_val hτ rfl rfl rfl ?_
              refine awl_val hτ rfl rfl rfl ?_
              refine awl_nil ?_
              refine aw_weak (weak_ofP [] (l := [(4, .d (.bool (fcmp .eql .f32 x101 (1065353216 : Nat))))]) (objs := []) rfl (by simp) rfl (by repeat' first | exact trivial | refine ⟨?_, ?_⟩) ⟨rfl, trivial, trivial⟩) ?_
              refine aw_ret ?_
              have hr := Option.some.inj h
              subst hr
              exact ret_objs (.inr rfl) [] (objs' := []) (new := []) rfl (by simp) (by simp) rfl (by repeat' first | exact trivial | refine ⟨?_, ?_⟩) rfl rfl (by repeat' first | exact trivial | refine ⟨?_, ?_⟩) (fun _ => ⟨by simp [V.flat, V.flatA, V.flatC, D.flat], flat_nil⟩) ⟨rfl, rfl, rfl⟩
            · have h := if_bf h hb100
              refine awl_skip rfl rfl ?_
              refine awl_skip rfl rfl ?_
              refine awl_val hτ rfl rfl rfl ?_
              refine awl_val hτ rfl rfl rfl ?_
              refine awl_nil ?_
              refine aw_weak (weak_ofP [] (l := [(4, .d (.bool false))]) (objs := []) rfl (by simp) rfl (by repeat' first | exact trivial | refine ⟨?_, ?_⟩) ⟨rfl, trivial, trivial⟩) ?_
              refine aw_ret ?_
              have hr := Option.some.inj h
              subst hr
              exact ret_objs (.inr rfl) [] (objs' := []) (new := []) rfl (by simp) (by simp) rfl (by repeat' first | exact trivial | refine ⟨?_, ?_⟩) rfl rfl (by repeat' first | exact trivial | refine ⟨?_, ?_⟩) (fun _ => ⟨by simp [V.flat, V.flatA, V.flatC, D.flat], flat_nil⟩) ⟨rfl, rfl, rfl⟩
          · have h := if_bf h hb96
            refine awl_skip rfl rfl ?_
            refine awl_skip rfl rfl ?_
            refine awl_skip rfl rfl ?_
            refine awl_weak (weak_ofP [] (l := [(5, .d (.fl .f32 x54)), (135, .d (.bool false)), (138, .und)]) (objs := []) rfl (by simp) rfl (by repeat' first | exact trivial | refine ⟨?_, ?_⟩) ⟨rfl, trivial, rfl, trivial, rfl, trivial, trivial⟩) ?_
            refine awl_skip rfl rfl ?_
            refine awl_skip rfl rfl ?_
            refine awl_val hτ rfl rfl rfl ?_
            refine awl_val hτ rfl rfl rfl ?_
            refine awl_skip rfl rfl ?_
            refine awl_skip rfl rfl ?_
            refine awl_val hτ rfl rfl rfl ?_
            refine awl_val hτ rfl rfl rfl ?_
            refine awl_nil ?_
            refine aw_weak (weak_ofP [] (l := [(4, .d (.bool false))]) (objs := []) rfl (by simp) rfl (by repeat' first | exact trivial | refine ⟨?_, ?_⟩) ⟨rfl, trivial, trivial⟩) ?_
            refine aw_ret ?_
            have hr := Option.some.inj h
            subst hr
            exact ret_objs (.inr rfl) [] (objs' := []) (new := []) rfl (by simp) (by simp) rfl (by repeat' first | exact trivial | refine ⟨?_, ?_⟩) rfl rfl (by repeat' first | exact trivial | refine ⟨?_, ?_⟩) (fun _ => ⟨by simp [V.flat, V.flatA, V.flatC, D.flat], flat_nil⟩) ⟨rfl, rfl, rfl⟩
        · refine aw_seq ?_
          refine aw_seq ?_
          refine aw_region ?_
          refine awl_val hτ rfl rfl rfl ?_
          refine awl_need hτ rfl rfl rfl (len_map _) ?_
          refine awl_val hτ rfl rfl rfl ?_
          refine awl_nil ?_
          refine aw_block ?_
          refine aw_loop (ι := Nat × Int) (fun (m111, v106) => St.of [(5, .d (.fl .f32 x54)), (6, .d (.fl .f32 x55)), (10, .row 0 x60.length 0 x60.length), (17, .row 1 x70.1.length 0 x70.1.length), (112, .d (.int .i64 (x60.length : Int))), (113, .d (.int .i64 v106))] [.row 1 (x60.map eNatf32), .row 1 (x70.1.map eNatf32)] f4.ntmps 0) (fun (m111, v106) => m_laws_FnNumbers_l4 n x54 x55 x60 x70 m111 v106 = some r) (fun x => x.1) (n, (0 : Int)) h (weak_ofP [0, 1] (l := [(5, .d (.fl .f32 x54)), (6, .d (.fl .f32 x55)), (10, .row 0 x60.length 0 x60.length), (17, .row 1 x70.1.length 0 x70.1.length), (112, .d (.int .i64 (x60.length : Int))), (113, .d (.int .i64 (0 : Int)))]) (objs := [.row 1 (x60.map eNatf32), .row 1 (x70.1.map eNatf32)]) rfl (by simp) rfl (by repeat' first | exact trivial | refine ⟨?_, ?_⟩) ⟨rfl, trivial, rfl, trivial, rfl, trivial, rfl, trivial, rfl, trivial, rfl, trivial, trivial⟩) ?_
          rintro ⟨m111, v106⟩ h
          replace h : m_laws_FnNumbers_l4 n x54 x55 x60 x70 m111 v106 = some r := h
          rcases m111 with _ | m111
          · rw [m_laws_FnNumbers_l4] at h; cases h
          rw [m_laws_FnNumbers_l4] at h
          refine aw_seq ?_
          refine aw_region ?_
          refine awl_val hτ rfl rfl rfl ?_
          refine awl_nil ?_
          refine aw_seq ?_
          refine aw_cond rfl (fun hc113 => ?_) (fun hc113 => ?_)
          · have h := if_t h hc113
            refine aw_skip ?_
            refine aw_seq ?_
            refine aw_block ?_
            refine aw_seq ?_
            refine aw_region ?_
            refine awl_val hτ rfl rfl rfl ?_
            refine awl_val hτ rfl rfl rfl ?_
            refine awl_nil ?_
            refine aw_seq ?_
            refine any_start ?_
            refine any_val hτ [] 0 rfl rfl rfl rfl rfl ?_
            refine any_val hτ [] 1 rfl rfl rfl rfl rfl ?_
            refine bnd_elim h fun x117 hx117 h => ?_
            refine any_need hτ [1] 2 rfl rfl rfl rfl rfl (row_need hx117) ?_
            refine any_elem hτ [1] 3 rfl rfl rfl rfl rfl (len_map _) (row_get hx117) rfl ?_
            refine any_val hτ [] 4 rfl rfl rfl rfl rfl ?_
            refine any_val hτ [] 5 rfl rfl rfl rfl rfl ?_
            refine bnd_elim h fun x118 hx118 h => ?_
            refine any_need hτ [0] 6 rfl rfl rfl rfl rfl (row_need hx118) ?_
            refine any_elem hτ [0] 7 rfl rfl rfl rfl rfl (len_map _) (row_get hx118) rfl ?_
            refine bnd_elim h fun x119 hx119 h => ?_
            refine any_callP hτ false [] [0, 1] 8 rfl rfl rfl rfl (enterOk func11 rfl rfl) rfl rfl (by simp) ⟨trivial, trivial, trivial⟩ (by repeat' first | exact trivial | refine ⟨?_, ?_⟩) (spec_SameNumber_ok n x117 x118 hx119) ⟨rfl, rfl, trivial⟩ ?_
            refine any_val hτ [] 9 rfl rfl rfl rfl rfl ?_
            refine any_done mixed (by kernel_rfl) ?_
            refine aw_weak (weak_ofP [0, 1] (l := [(5, .d (.fl .f32 x54)), (6, .d (.fl .f32 x55)), (10, .row 0 x60.length 0 x60.length), (17, .row 1 x70.1.length 0 x70.1.length), (112, .d (.int .i64 (x60.length : Int))), (113, .d (.int .i64 v106)), (125, .d (.bool (!x119)))]) (objs := [.row 1 (x60.map eNatf32), .row 1 (x70.1.map eNatf32)]) rfl (by simp) rfl (by repeat' first | exact trivial | refine ⟨?_, ?_⟩) ⟨rfl, trivial, rfl, trivial, rfl, trivial, rfl, trivial, rfl, trivial, rfl, trivial, rfl, trivial, trivial⟩) ?_
            refine aw_cond rfl (fun hc120 => ?_) (fun hc120 => ?_)
            · have hc120 := not_t hc120
              have h := if_bf h hc120
              refine aw_seq ?_
              refine aw_region ?_
              refine awl_val hτ rfl rfl rfl ?_
              refine awl_nil ?_
              refine aw_weak (weak_ofP [] (l := [(4, .d (.bool false))]) (objs := []) rfl (by simp) rfl (by repeat' first | exact trivial | refine ⟨?_, ?_⟩) ⟨rfl, trivial, trivial⟩) ?_
              refine aw_ret ?_
              have hr := Option.some.inj h
              subst hr
              exact ret_objs (.inr rfl) [] (objs' := []) (new := []) rfl (by simp) (by simp) rfl (by repeat' first | exact trivial | refine ⟨?_, ?_⟩) rfl rfl (by repeat' first | exact trivial | refine ⟨?_, ?_⟩) (fun _ => ⟨by simp [V.flat, V.flatA, V.flatC, D.flat], flat_nil⟩) ⟨rfl, rfl, rfl⟩
            · have hc120 := not_f hc120
              have h := if_bt h hc120
              refine aw_skip ?_
              refine aw_region ?_
              refine awl_val hτ rfl rfl rfl ?_
              refine awl_val hτ rfl rfl rfl ?_
              refine awl_nil ?_
              exact ⟨(m111, (w64 (v106 + (1 : Int)))), h, Nat.lt_succ_self m111, (weak_ofP [0, 1] (l := [(5, .d (.fl .f32 x54)), (6, .d (.fl .f32 x55)), (10, .row 0 x60.length 0 x60.length), (17, .row 1 x70.1.length 0 x70.1.length), (112, .d (.int .i64 (x60.length : Int))), (113, .d (.int .i64 (w64 (v106 + (1 : Int)))))]) (objs := [.row 1 (x60.map eNatf32), .row 1 (x70.1.map eNatf32)]) rfl (by simp) rfl (by repeat' first | exact trivial | refine ⟨?_, ?_⟩) ⟨rfl, trivial, rfl, trivial, rfl, trivial, rfl, trivial, rfl, trivial, rfl, trivial, trivial⟩)⟩
          · have h := if_f h hc113
            refine aw_exit ?_
            refine aw_weak (weak_ofP [] (l := [(5, .d (.fl .f32 x54)), (6, .d (.fl .f32 x55))]) (objs := []) rfl (by simp) rfl (by repeat' first | exact trivial | refine ⟨?_, ?_⟩) ⟨rfl, trivial, rfl, trivial, trivial⟩) ?_
            exact hk102 () h
      · refine aw_seq ?_
        refine aw_hk1 (ι := Bool) (fun v136 => St.of [(5, .d (.fl .f32 x54)), (6, .d (.fl .f32 x55)), (10, .row 0 x60.length 0 x60.length), (17, .row 1 x70.1.length 0 x70.1.length), (110, .d (.bool v136))] [.row 1 (x60.map eNatf32), .row 1 (x70.1.map eNatf32)] f4.ntmps 0) (fun v136 => m_laws_FnNumbers_j5 n x54 x55 x60 x70 v136 = some r) ?_ (fun hk138 => ?_)
        · rintro v136 h
          replace h : m_laws_FnNumbers_j5 n x54 x55 x60 x70 v136 = some r := h
          unfold m_laws_FnNumbers_j5 at h
          refine aw_cond rfl (fun hc137 => ?_) (fun hc137 => ?_)
          · have h := if_bt h hc137
            refine aw_seq ?_
            refine aw_region ?_
            refine awl_val hτ rfl rfl rfl ?_
            refine awl_nil ?_
            refine aw_weak (weak_ofP [] (l := [(4, .d (.bool false))]) (objs := []) rfl (by simp) rfl (by repeat' first | exact trivial | refine ⟨?_, ?_⟩) ⟨rfl, trivial, trivial⟩) ?_
            refine aw_ret ?_
            have hr := Option.some.inj h
            subst hr
            exact ret_objs (.inr rfl) [] (objs' := []) (new := []) rfl (by simp) (by simp) rfl (by repeat' first | exact trivial | refine ⟨?_, ?_⟩) rfl rfl (by repeat' first | exact trivial | refine ⟨?_, ?_⟩) (fun _ => ⟨by simp [V.flat, V.flatA, V.flatC, D.flat], flat_nil⟩) ⟨rfl, rfl, rfl⟩
          · have h := if_bf h hc137
            refine aw_skip ?_
            refine aw_weak (weak_ofP [0, 1] (l := [(5, .d (.fl .f32 x54)), (6, .d (.fl .f32 x55)), (10, .row 0 x60.length 0 x60.length), (17, .row 1 x70.1.length 0 x70.1.length)]) (objs := [.row 1 (x60.map eNatf32), .row 1 (x70.1.map eNatf32)]) rfl (by simp) rfl (by repeat' first | exact trivial | refine ⟨?_, ?_⟩) ⟨rfl, trivial, rfl, trivial, rfl, trivial, rfl, trivial, trivial⟩) ?_
            exact hk121 () h
        · refine aw_seq ?_
          refine aw_weak (weak_ofP [0, 1] (l := [(5, .d (.fl .f32 x54)), (6, .d (.fl .f32 x55)), (7, .d (.fl .f32 x57.1)), (8, .d (.bool x57.2)), (9, .d (.fl .f32 x58)), (10, .row 0 x60.length 0 x60.length), (11, .d (.fl .f32 v67)), (13, .d (.fl .f32 x68.1)), (14, .d (.bool x68.2)), (16, .d (.bool x69.2)), (17, .row 1 x70.1.length 0 x70.1.length), (18, .d (.bool x70.2))]) (objs := [.row 1 (x60.map eNatf32), .row 1 (x70.1.map eNatf32)]) rfl (by simp) rfl (by repeat' first | exact trivial | refine ⟨?_, ?_⟩) ⟨rfl, trivial, rfl, trivial, rfl, trivial, rfl, trivial, rfl, trivial, rfl, trivial, rfl, trivial, rfl, trivial, rfl, trivial, rfl, trivial, rfl, trivial, rfl, trivial, trivial⟩) ?_
          refine aw_region ?_
          refine awl_val hτ rfl rfl rfl ?_
          refine awl_val hτ rfl rfl rfl ?_
          refine awl_val hτ rfl rfl rfl ?_
          refine awl_split 68 rfl (fun hb139 => ?_) (fun hb139 => ?_)
          · have hb139 := not_t hb139
            have h := if_bf h hb139
            refine awl_skip rfl rfl ?_
            refine awl_skip rfl rfl ?_
            refine awl_val hτ rfl rfl rfl ?_
            refine awl_val hτ rfl rfl rfl ?_
            refine awl_skip rfl rfl ?_
            refine awl_skip rfl rfl ?_
            refine awl_val hτ rfl rfl rfl ?_
            refine awl_val hτ rfl rfl rfl ?_
            refine awl_skip rfl rfl ?_
            refine awl_weak (weak_ofP [0, 1] (l := [(5, .d (.fl .f32 x54)), (6, .d (.fl .f32 x55)), (7, .d (.fl .f32 x57.1)), (9, .d (.fl .f32 x58)), (10, .row 0 x60.length 0 x60.length), (11, .d (.fl .f32 v67)), (13, .d (.fl .f32 x68.1)), (17, .row 1 x70.1.length 0 x70.1.length), (76, .d (.bool true)), (77, .und)]) (objs := [.row 1 (x60.map eNatf32), .row 1 (x70.1.map eNatf32)]) rfl (by simp) rfl (by repeat' first | exact trivial | refine ⟨?_, ?_⟩) ⟨rfl, trivial, rfl, trivial, rfl, trivial, rfl, trivial, rfl, trivial, rfl, trivial, rfl, trivial, rfl, trivial, rfl, trivial, rfl, trivial, trivial⟩) ?_
            refine awl_skip rfl rfl ?_
            refine awl_val hτ rfl rfl rfl ?_
            refine awl_val hτ rfl rfl rfl ?_
            refine awl_skip rfl rfl ?_
            refine awl_skip rfl rfl ?_
            refine awl_skip rfl rfl ?_
            refine awl_skip rfl rfl ?_
            refine awl_val hτ rfl rfl rfl ?_
            refine awl_val hτ rfl rfl rfl ?_
            refine awl_skip rfl rfl ?_
            refine awl_skip rfl rfl ?_
            refine awl_val hτ rfl rfl rfl ?_
            refine awl_weak (weak_ofP [0, 1] (l := [(5, .d (.fl .f32 x54)), (6, .d (.fl .f32 x55)), (9, .d (.fl .f32 x58)), (10, .row 0 x60.length 0 x60.length), (11, .d (.fl .f32 v67)), (13, .d (.fl .f32 x68.1)), (17, .row 1 x70.1.length 0 x70.1.length), (89, .d (.bool true))]) (objs := [.row 1 (x60.map eNatf32), .row 1 (x70.1.map eNatf32)]) rfl (by simp) rfl (by repeat' first | exact trivial | refine ⟨?_, ?_⟩) ⟨rfl, trivial, rfl, trivial, rfl, trivial, rfl, trivial, rfl, trivial, rfl, trivial, rfl, trivial, rfl, trivial, trivial⟩) ?_
            refine awl_val hτ rfl rfl rfl ?_
            refine awl_skip rfl rfl ?_
            refine awl_skip rfl rfl ?_
            refine awl_skip rfl rfl ?_
            refine awl_skip rfl rfl ?_
            refine awl_skip rfl rfl ?_
            refine awl_skip rfl rfl ?_
            refine awl_val hτ rfl rfl rfl ?_
            refine awl_val hτ rfl rfl rfl ?_
            refine awl_skip rfl rfl ?_
            refine awl_skip rfl rfl ?_
            refine awl_skip rfl rfl ?_
            refine awl_weak (weak_ofP [0, 1] (l := [(5, .d (.fl .f32 x54)), (6, .d (.fl .f32 x55)), (10, .row 0 x60.length 0 x60.length), (17, .row 1 x70.1.length 0 x70.1.length), (98, .d (.bool true)), (101, .und)]) (objs := [.row 1 (x60.map eNatf32), .row 1 (x70.1.map eNatf32)]) rfl (by simp) rfl (by repeat' first | exact trivial | refine ⟨?_, ?_⟩) ⟨rfl, trivial, rfl, trivial, rfl, trivial, rfl, trivial, rfl, trivial, rfl, trivial, trivial⟩) ?_
            refine awl_skip rfl rfl ?_
            refine awl_val hτ rfl rfl rfl ?_
            refine awl_val hτ rfl rfl rfl ?_
            refine awl_skip rfl rfl ?_
            refine awl_skip rfl rfl ?_
            refine awl_skip rfl rfl ?_
            refine awl_skip rfl rfl ?_
            refine awl_skip rfl rfl ?_
            refine awl_val hτ rfl rfl rfl ?_
            refine awl_nil ?_
            refine aw_weak (weak_ofP [0, 1] (l := [(5, .d (.fl .f32 x54)), (6, .d (.fl .f32 x55)), (10, .row 0 x60.length 0 x60.length), (17, .row 1 x70.1.length 0 x70.1.length), (110, .d (.bool true))]) (objs := [.row 1 (x60.map eNatf32), .row 1 (x70.1.map eNatf32)]) rfl (by simp) rfl (by repeat' first | exact trivial | refine ⟨?_, ?_⟩) ⟨rfl, trivial, rfl, trivial, rfl, trivial, rfl, trivial, rfl, trivial, trivial⟩) ?_
            exact hk138 true h
          · have hb139 := not_f hb139
            have h := if_bt h hb139
            refine awl_val hτ rfl rfl rfl ?_
            refine awl_val hτ rfl rfl rfl ?_
            refine awl_val hτ rfl rfl rfl ?_
            refine awl_val hτ rfl rfl rfl ?_
            refine awl_split 72 rfl (fun hb140 => ?_) (fun hb140 => ?_)
            · have hb140 := not_t hb140
              have h := if_bf h hb140
              refine awl_skip rfl rfl ?_
              refine awl_skip rfl rfl ?_
              refine awl_val hτ rfl rfl rfl ?_
              refine awl_val hτ rfl rfl rfl ?_
              refine awl_skip rfl rfl ?_
              refine awl_weak (weak_ofP [0, 1] (l := [(5, .d (.fl .f32 x54)), (6, .d (.fl .f32 x55)), (7, .d (.fl .f32 x57.1)), (9, .d (.fl .f32 x58)), (10, .row 0 x60.length 0 x60.length), (11, .d (.fl .f32 v67)), (13, .d (.fl .f32 x68.1)), (17, .row 1 x70.1.length 0 x70.1.length), (76, .d (.bool true)), (77, .und)]) (objs := [.row 1 (x60.map eNatf32), .row 1 (x70.1.map eNatf32)]) rfl (by simp) rfl (by repeat' first | exact trivial | refine ⟨?_, ?_⟩) ⟨rfl, trivial, rfl, trivial, rfl, trivial, rfl, trivial, rfl, trivial, rfl, trivial, rfl, trivial, rfl, trivial, rfl, trivial, rfl, trivial, trivial⟩) ?_
              refine awl_skip rfl rfl ?_
              refine awl_val hτ rfl rfl rfl ?_
              refine awl_val hτ rfl rfl rfl ?_
              refine awl_skip rfl rfl ?_
              refine awl_skip rfl rfl ?_
              refine awl_skip rfl rfl ?_
              refine awl_skip rfl rfl ?_
              refine awl_val hτ rfl rfl rfl ?_
              refine awl_val hτ rfl rfl rfl ?_
              refine awl_skip rfl rfl ?_
              refine awl_skip rfl rfl ?_
              refine awl_val hτ rfl rfl rfl ?_
              refine awl_weak (weak_ofP [0, 1] (l := [(5, .d (.fl .f32 x54)), (6, .d (.fl .f32 x55)), (9, .d (.fl .f32 x58)), (10, .row 0 x60.length 0 x60.length), (11, .d (.fl .f32 v67)), (13, .d (.fl .f32 x68.1)), (17, .row 1 x70.1.length 0 x70.1.length), (89, .d (.bool true))]) (objs := [.row 1 (x60.map eNatf32), .row 1 (x70.1.map eNatf32)]) rfl (by simp) rfl (by repeat' first | exact trivial | refine ⟨?_, ?_⟩) ⟨rfl, trivial, rfl, trivial, rfl, trivial, rfl, trivial, rfl, trivial, rfl, trivial, rfl, trivial, rfl, trivial, trivial⟩) ?_
              refine awl_val hτ rfl rfl rfl ?_
              refine awl_skip rfl rfl ?_
              refine awl_skip rfl rfl ?_
              refine awl_skip rfl rfl ?_
              refine awl_skip rfl rfl ?_
              refine awl_skip rfl rfl ?_
              refine awl_skip rfl rfl ?_
              refine awl_val hτ rfl rfl rfl ?_
              refine awl_val hτ rfl rfl rfl ?_
              refine awl_skip rfl rfl ?_
              refine awl_skip rfl rfl ?_
              refine awl_skip rfl rfl ?_
              refine awl_weak (weak_ofP [0, 1] (l := [(5, .d (.fl .f32 x54)), (6, .d (.fl .f32 x55)), (10, .row 0 x60.length 0 x60.length), (17, .row 1 x70.1.length 0 x70.1.length), (98, .d (.bool true)), (101, .und)]) (objs := [.row 1 (x60.map eNatf32), .row 1 (x70.1.map eNatf32)]) rfl (by simp) rfl (by repeat' first | exact trivial | refine ⟨?_, ?_⟩) ⟨rfl, trivial, rfl, trivial, rfl, trivial, rfl, trivial, rfl, trivial, rfl, trivial, trivial⟩) ?_
              refine awl_skip rfl rfl ?_
              refine awl_val hτ rfl rfl rfl ?_
              refine awl_val hτ rfl rfl rfl ?_
              refine awl_skip rfl rfl ?_
              refine awl_skip rfl rfl ?_
              refine awl_skip rfl rfl ?_
              refine awl_skip rfl rfl ?_
              refine awl_skip rfl rfl ?_
              refine awl_val hτ rfl rfl rfl ?_
              refine awl_nil ?_
              refine aw_weak (weak_ofP [0, 1] (l := [(5, .d (.fl .f32 x54)), (6, .d (.fl .f32 x55)), (10, .row 0 x60.length 0 x60.length), (17, .row 1 x70.1.length 0 x70.1.length), (110, .d (.bool true))]) (objs := [.row 1 (x60.map eNatf32), .row 1 (x70.1.map eNatf32)]) rfl (by simp) rfl (by repeat' first | exact trivial | refine ⟨?_, ?_⟩) ⟨rfl, trivial, rfl, trivial, rfl, trivial, rfl, trivial, rfl, trivial, trivial⟩) ?_
              exact hk138 true h
            · have hb140 := not_f hb140
              have h := if_bt h hb140
              refine awl_val hτ rfl rfl rfl ?_
              refine awl_val hτ rfl rfl rfl ?_
              refine awl_val hτ rfl rfl rfl ?_
              refine awl_val hτ rfl rfl rfl ?_
              refine awl_split 76 rfl (fun hb141 => ?_) (fun hb141 => ?_)
              · have hb141 := not_t hb141
                have h := if_bf h hb141
                refine awl_skip rfl rfl ?_
                refine awl_weak (weak_ofP [0, 1] (l := [(5, .d (.fl .f32 x54)), (6, .d (.fl .f32 x55)), (7, .d (.fl .f32 x57.1)), (9, .d (.fl .f32 x58)), (10, .row 0 x60.length 0 x60.length), (11, .d (.fl .f32 v67)), (13, .d (.fl .f32 x68.1)), (17, .row 1 x70.1.length 0 x70.1.length), (76, .d (.bool true)), (77, .und)]) (objs := [.row 1 (x60.map eNatf32), .row 1 (x70.1.map eNatf32)]) rfl (by simp) rfl (by repeat' first | exact trivial | refine ⟨?_, ?_⟩) ⟨rfl, trivial, rfl, trivial, rfl, trivial, rfl, trivial, rfl, trivial, rfl, trivial, rfl, trivial, rfl, trivial, rfl, trivial, rfl, trivial, trivial⟩) ?_
                refine awl_skip rfl rfl ?_
                refine awl_val hτ rfl rfl rfl ?_
                refine awl_val hτ rfl rfl rfl ?_
                refine awl_skip rfl rfl ?_
                refine awl_skip rfl rfl ?_
                refine awl_skip rfl rfl ?_
                refine awl_skip rfl rfl ?_
                refine awl_val hτ rfl rfl rfl ?_
                refine awl_val hτ rfl rfl rfl ?_
                refine awl_skip rfl rfl ?_
                refine awl_skip rfl rfl ?_
                refine awl_val hτ rfl rfl rfl ?_
                refine awl_weak (weak_ofP [0, 1] (l := [(5, .d (.fl .f32 x54)), (6, .d (.fl .f32 x55)), (9, .d (.fl .f32 x58)), (10, .row 0 x60.length 0 x60.length), (11, .d (.fl .f32 v67)), (13, .d (.fl .f32 x68.1)), (17, .row 1 x70.1.length 0 x70.1.length), (89, .d (.bool true))]) (objs := [.row 1 (x60.map eNatf32), .row 1 (x70.1.map eNatf32)]) rfl (by simp) rfl (by repeat' first | exact trivial | refine ⟨?_, ?_⟩) ⟨rfl, trivial, rfl, trivial, rfl, trivial, rfl, trivial, rfl, trivial, rfl, trivial, rfl, trivial, rfl, trivial, trivial⟩) ?_
                refine awl_val hτ rfl rfl rfl ?_
                refine awl_skip rfl rfl ?_
                refine awl_skip rfl rfl ?_
                refine awl_skip rfl rfl ?_
                refine awl_skip rfl rfl ?_
                refine awl_skip rfl rfl ?_
                refine awl_skip rfl rfl ?_
                refine awl_val hτ rfl rfl rfl ?_
                refine awl_val hτ rfl rfl rfl ?_
                refine awl_skip rfl rfl ?_
                refine awl_skip rfl rfl ?_
                refine awl_skip rfl rfl ?_
                refine awl_weak (weak_ofP [0, 1] (l := [(5, .d (.fl .f32 x54)), (6, .d (.fl .f32 x55)), (10, .row 0 x60.length 0 x60.length), (17, .row 1 x70.1.length 0 x70.1.length), (98, .d (.bool true)), (101, .und)]) (objs := [.row 1 (x60.map eNatf32), .row 1 (x70.1.map eNatf32)]) rfl (by simp) rfl (by repeat' first | exact trivial | refine ⟨?_, ?_⟩) ⟨rfl, trivial, rfl, trivial, rfl, trivial, rfl, trivial, rfl, trivial, rfl, trivial, trivial⟩) ?_
                refine awl_skip rfl rfl ?_
                refine awl_val hτ rfl rfl rfl ?_
                refine awl_val hτ rfl rfl rfl ?_
                refine awl_skip rfl rfl ?_
                refine awl_skip rfl rfl ?_
                refine awl_skip rfl rfl ?_
                refine awl_skip rfl rfl ?_
                refine awl_skip rfl rfl ?_
                refine awl_val hτ rfl rfl rfl ?_
                refine awl_nil ?_
                refine aw_weak (weak_ofP [0, 1] (l := [(5, .d (.fl .f32 x54)), (6, .d (.fl .f32 x55)), (10, .row 0 x60.length 0 x60.length), (17, .row 1 x70.1.length 0 x70.1.length), (110, .d (.bool true))]) (objs := [.row 1 (x60.map eNatf32), .row 1 (x70.1.map eNatf32)]) rfl (by simp) rfl (by repeat' first | exact trivial | refine ⟨?_, ?_⟩) ⟨rfl, trivial, rfl, trivial, rfl, trivial, rfl, trivial, rfl, trivial, trivial⟩) ?_
                exact hk138 true h
              · have hb141 := not_f hb141
                have h := if_bt h hb141
                refine awl_val hτ rfl rfl rfl ?_
                refine awl_weak (weak_ofP [0, 1] (l := [(5, .d (.fl .f32 x54)), (6, .d (.fl .f32 x55)), (7, .d (.fl .f32 x57.1)), (9, .d (.fl .f32 x58)), (10, .row 0 x60.length 0 x60.length), (11, .d (.fl .f32 v67)), (13, .d (.fl .f32 x68.1)), (17, .row 1 x70.1.length 0 x70.1.length), (76, .d (.bool false)), (77, .d (.bool x70.2))]) (objs := [.row 1 (x60.map eNatf32), .row 1 (x70.1.map eNatf32)]) rfl (by simp) rfl (by repeat' first | exact trivial | refine ⟨?_, ?_⟩) ⟨rfl, trivial, rfl, trivial, rfl, trivial, rfl, trivial, rfl, trivial, rfl, trivial, rfl, trivial, rfl, trivial, rfl, trivial, rfl, trivial, trivial⟩) ?_
                refine awl_val hτ rfl rfl rfl ?_
                refine awl_val hτ rfl rfl rfl ?_
                refine awl_val hτ rfl rfl rfl ?_
                refine awl_split 80 rfl (fun hb142 => ?_) (fun hb142 => ?_)
                · have hb142 := not_t hb142
                  have h := if_bf h hb142
                  refine awl_skip rfl rfl ?_
                  refine awl_skip rfl rfl ?_
                  refine awl_skip rfl rfl ?_
                  refine awl_skip rfl rfl ?_
                  refine awl_val hτ rfl rfl rfl ?_
                  refine awl_val hτ rfl rfl rfl ?_
                  refine awl_skip rfl rfl ?_
                  refine awl_skip rfl rfl ?_
                  refine awl_val hτ rfl rfl rfl ?_
                  refine awl_weak (weak_ofP [0, 1] (l := [(5, .d (.fl .f32 x54)), (6, .d (.fl .f32 x55)), (9, .d (.fl .f32 x58)), (10, .row 0 x60.length 0 x60.length), (11, .d (.fl .f32 v67)), (13, .d (.fl .f32 x68.1)), (17, .row 1 x70.1.length 0 x70.1.length), (89, .d (.bool true))]) (objs := [.row 1 (x60.map eNatf32), .row 1 (x70.1.map eNatf32)]) rfl (by simp) rfl (by repeat' first | exact trivial | refine ⟨?_, ?_⟩) ⟨rfl, trivial, rfl, trivial, rfl, trivial, rfl, trivial, rfl, trivial, rfl, trivial, rfl, trivial, rfl, trivial, trivial⟩) ?_
                  refine awl_val hτ rfl rfl rfl ?_
                  refine awl_skip rfl rfl ?_
                  refine awl_skip rfl rfl ?_
                  refine awl_skip rfl rfl ?_
                  refine awl_skip rfl rfl ?_
                  refine awl_skip rfl rfl ?_
                  refine awl_skip rfl rfl ?_
                  refine awl_val hτ rfl rfl rfl ?_
                  refine awl_val hτ rfl rfl rfl ?_
                  refine awl_skip rfl rfl ?_
                  refine awl_skip rfl rfl ?_
                  refine awl_skip rfl rfl ?_
                  refine awl_weak (weak_ofP [0, 1] (l := [(5, .d (.fl .f32 x54)), (6, .d (.fl .f32 x55)), (10, .row 0 x60.length 0 x60.length), (17, .row 1 x70.1.length 0 x70.1.length), (98, .d (.bool true)), (101, .und)]) (objs := [.row 1 (x60.map eNatf32), .row 1 (x70.1.map eNatf32)]) rfl (by simp) rfl (by repeat' first | exact trivial | refine ⟨?_, ?_⟩) ⟨rfl, trivial, rfl, trivial, rfl, trivial, rfl, trivial, rfl, trivial, rfl, trivial, trivial⟩) ?_
                  refine awl_skip rfl rfl ?_
                  refine awl_val hτ rfl rfl rfl ?_
                  refine awl_val hτ rfl rfl rfl ?_
                  refine awl_skip rfl rfl ?_
                  refine awl_skip rfl rfl ?_
                  refine awl_skip rfl rfl ?_
                  refine awl_skip rfl rfl ?_
                  refine awl_skip rfl rfl ?_
                  refine awl_val hτ rfl rfl rfl ?_
                  refine awl_nil ?_
                  refine aw_weak (weak_ofP [0, 1] (l := [(5, .d (.fl .f32 x54)), (6, .d (.fl .f32 x55)), (10, .row 0 x60.length 0 x60.length), (17, .row 1 x70.1.length 0 x70.1.length), (110, .d (.bool true))]) (objs := [.row 1 (x60.map eNatf32), .row 1 (x70.1.map eNatf32)]) rfl (by simp) rfl (by repeat' first | exact trivial | refine ⟨?_, ?_⟩) ⟨rfl, trivial, rfl, trivial, rfl, trivial, rfl, trivial, rfl, trivial, trivial⟩) ?_
                  exact hk138 true h
                · have hb142 := not_f hb142
                  have h := if_bt h hb142
                  refine awl_val hτ rfl rfl rfl ?_
                  refine awl_val hτ rfl rfl rfl ?_
                  refine bnd_elim h fun x143 hx143 h => ?_
                  refine awl_callP hτ false [] rfl rfl rfl (enterOk func11 rfl rfl) rfl rfl (by simp) ⟨trivial, trivial, trivial⟩ (by repeat' first | exact trivial | refine ⟨?_, ?_⟩) (spec_SameNumber_ok n x57.1 x54 hx143) ?_
                  rintro r0 o0 n0 ⟨rfl, rfl, rfl⟩ -
                  refine awl_val hτ rfl rfl rfl ?_
                  refine awl_val hτ rfl rfl rfl ?_
                  refine awl_val hτ rfl rfl rfl ?_
                  refine awl_split 86 rfl (fun hb144 => ?_) (fun hb144 => ?_)
                  · have hb144 := not_t hb144
                    have h := if_bf h hb144
                    refine awl_skip rfl rfl ?_
                    refine awl_skip rfl rfl ?_
                    refine awl_val hτ rfl rfl rfl ?_
                    refine awl_weak (weak_ofP [0, 1] (l := [(5, .d (.fl .f32 x54)), (6, .d (.fl .f32 x55)), (9, .d (.fl .f32 x58)), (10, .row 0 x60.length 0 x60.length), (11, .d (.fl .f32 v67)), (13, .d (.fl .f32 x68.1)), (17, .row 1 x70.1.length 0 x70.1.length), (89, .d (.bool true))]) (objs := [.row 1 (x60.map eNatf32), .row 1 (x70.1.map eNatf32)]) rfl (by simp) rfl (by repeat' first | exact trivial | refine ⟨?_, ?_⟩) ⟨rfl, trivial, rfl, trivial, rfl, trivial, rfl, trivial, rfl, trivial, rfl, trivial, rfl, trivial, rfl, trivial, trivial⟩) ?_
                    refine awl_val hτ rfl rfl rfl ?_
                    refine awl_skip rfl rfl ?_
                    refine awl_skip rfl rfl ?_
                    refine awl_skip rfl rfl ?_
                    refine awl_skip rfl rfl ?_
                    refine awl_skip rfl rfl ?_
                    refine awl_skip rfl rfl ?_
                    refine awl_val hτ rfl rfl rfl ?_
                    refine awl_val hτ rfl rfl rfl ?_
                    refine awl_skip rfl rfl ?_
                    refine awl_skip rfl rfl ?_
                    refine awl_skip rfl rfl ?_
                    refine awl_weak (weak_ofP [0, 1] (l := [(5, .d (.fl .f32 x54)), (6, .d (.fl .f32 x55)), (10, .row 0 x60.length 0 x60.length), (17, .row 1 x70.1.length 0 x70.1.length), (98, .d (.bool true)), (101, .und)]) (objs := [.row 1 (x60.map eNatf32), .row 1 (x70.1.map eNatf32)]) rfl (by simp) rfl (by repeat' first | exact trivial | refine ⟨?_, ?_⟩) ⟨rfl, trivial, rfl, trivial, rfl, trivial, rfl, trivial, rfl, trivial, rfl, trivial, trivial⟩) ?_
                    refine awl_skip rfl rfl ?_
                    refine awl_val hτ rfl rfl rfl ?_
                    refine awl_val hτ rfl rfl rfl ?_
                    refine awl_skip rfl rfl ?_
                    refine awl_skip rfl rfl ?_
                    refine awl_skip rfl rfl ?_
                    refine awl_skip rfl rfl ?_
                    refine awl_skip rfl rfl ?_
                    refine awl_val hτ rfl rfl rfl ?_
                    refine awl_nil ?_
                    refine aw_weak (weak_ofP [0, 1] (l := [(5, .d (.fl .f32 x54)), (6, .d (.fl .f32 x55)), (10, .row 0 x60.length 0 x60.length), (17, .row 1 x70.1.length 0 x70.1.length), (110, .d (.bool true))]) (objs := [.row 1 (x60.map eNatf32), .row 1 (x70.1.map eNatf32)]) rfl (by simp) rfl (by repeat' first | exact trivial | refine ⟨?_, ?_⟩) ⟨rfl, trivial, rfl, trivial, rfl, trivial, rfl, trivial, rfl, trivial, trivial⟩) ?_
                    exact hk138 true h
                  · have hb144 := not_f hb144
                    have h := if_bt h hb144
                    refine awl_val hτ rfl rfl rfl ?_
                    refine bnd_elim h fun x145 hx145 h => ?_
                    refine awl_callP hτ false [] rfl rfl rfl (enterOk func34 rfl rfl) rfl rfl (by simp) ⟨trivial, trivial⟩ (by repeat' first | exact trivial | refine ⟨?_, ?_⟩) (impl_IsSubnormal_ok n x58 hx145) ?_
                    rintro r0 o0 n0 ⟨rfl, rfl, rfl⟩ -
                    refine awl_val hτ rfl rfl rfl ?_
                    refine awl_weak (weak_ofP [0, 1] (l := [(5, .d (.fl .f32 x54)), (6, .d (.fl .f32 x55)), (9, .d (.fl .f32 x58)), (10, .row 0 x60.length 0 x60.length), (11, .d (.fl .f32 v67)), (13, .d (.fl .f32 x68.1)), (17, .row 1 x70.1.length 0 x70.1.length), (89, .d (.bool x145))]) (objs := [.row 1 (x60.map eNatf32), .row 1 (x70.1.map eNatf32)]) rfl (by simp) rfl (by repeat' first | exact trivial | refine ⟨?_, ?_⟩) ⟨rfl, trivial, rfl, trivial, rfl, trivial, rfl, trivial, rfl, trivial, rfl, trivial, rfl, trivial, rfl, trivial, trivial⟩) ?_
                    refine awl_val hτ rfl rfl rfl ?_
                    refine awl_split 90 rfl (fun hb146 => ?_) (fun hb146 => ?_)
                    · have h := if_bt h hb146
                      refine awl_skip rfl rfl ?_
                      refine awl_skip rfl rfl ?_
                      refine awl_skip rfl rfl ?_
                      refine awl_skip rfl rfl ?_
                      refine awl_skip rfl rfl ?_
                      refine awl_skip rfl rfl ?_
                      refine awl_val hτ rfl rfl rfl ?_
                      refine awl_val hτ rfl rfl rfl ?_
                      refine awl_skip rfl rfl ?_
                      refine awl_skip rfl rfl ?_
                      refine awl_skip rfl rfl ?_
                      refine awl_weak (weak_ofP [0, 1] (l := [(5, .d (.fl .f32 x54)), (6, .d (.fl .f32 x55)), (10, .row 0 x60.length 0 x60.length), (17, .row 1 x70.1.length 0 x70.1.length), (98, .d (.bool true)), (101, .und)]) (objs := [.row 1 (x60.map eNatf32), .row 1 (x70.1.map eNatf32)]) rfl (by simp) rfl (by repeat' first | exact trivial | refine ⟨?_, ?_⟩) ⟨rfl, trivial, rfl, trivial, rfl, trivial, rfl, trivial, rfl, trivial, rfl, trivial, trivial⟩) ?_
                      refine awl_skip rfl rfl ?_
                      refine awl_val hτ rfl rfl rfl ?_
                      refine awl_val hτ rfl rfl rfl ?_
                      refine awl_skip rfl rfl ?_
                      refine awl_skip rfl rfl ?_
                      refine awl_skip rfl rfl ?_
                      refine awl_skip rfl rfl ?_
                      refine awl_skip rfl rfl ?_
                      refine awl_val hτ rfl rfl rfl ?_
                      refine awl_nil ?_
                      refine aw_weak (weak_ofP [0, 1] (l := [(5, .d (.fl .f32 x54)), (6, .d (.fl .f32 x55)), (10, .row 0 x60.length 0 x60.length), (17, .row 1 x70.1.length 0 x70.1.length), (110, .d (.bool true))]) (objs := [.row 1 (x60.map eNatf32), .row 1 (x70.1.map eNatf32)]) rfl (by simp) rfl (by repeat' first | exact trivial | refine ⟨?_, ?_⟩) ⟨rfl, trivial, rfl, trivial, rfl, trivial, rfl, trivial, rfl, trivial, trivial⟩) ?_
                      exact hk138 true h
                    · have h := if_bf h hb146
                      refine awl_val hτ rfl rfl rfl ?_
                      refine bnd_elim h fun x147 hx147 h => ?_
                      refine awl_callP hτ false [] rfl rfl rfl (enterOk func34 rfl rfl) rfl rfl (by simp) ⟨trivial, trivial⟩ (by repeat' first | exact trivial | refine ⟨?_, ?_⟩) (impl_IsSubnormal_ok n x54 hx147) ?_
                      rintro r0 o0 n0 ⟨rfl, rfl, rfl⟩ -
                      refine awl_val hτ rfl rfl rfl ?_
                      refine awl_val hτ rfl rfl rfl ?_
                      refine bnd_elim h fun x148 hx148 h => ?_
                      refine awl_callP hτ false [] rfl rfl rfl (enterOk func11 rfl rfl) rfl rfl (by simp) ⟨trivial, trivial, trivial⟩ (by repeat' first | exact trivial | refine ⟨?_, ?_⟩) (spec_SameNumber_ok n x54 x58 hx148) ?_
                      rintro r0 o0 n0 ⟨rfl, rfl, rfl⟩ -
                      refine awl_val hτ rfl rfl rfl ?_
                      refine awl_val hτ rfl rfl rfl ?_
                      refine awl_val hτ rfl rfl rfl ?_
                      refine awl_split 98 rfl (fun hb149 => ?_) (fun hb149 => ?_)
                      · have h := if_bt h hb149
                        refine awl_skip rfl rfl ?_
                        refine awl_skip rfl rfl ?_
                        refine awl_skip rfl rfl ?_
                        refine awl_weak (weak_ofP [0, 1] (l := [(5, .d (.fl .f32 x54)), (6, .d (.fl .f32 x55)), (10, .row 0 x60.length 0 x60.length), (17, .row 1 x70.1.length 0 x70.1.length), (98, .d (.bool true)), (101, .und)]) (objs := [.row 1 (x60.map eNatf32), .row 1 (x70.1.map eNatf32)]) rfl (by simp) rfl (by repeat' first | exact trivial | refine ⟨?_, ?_⟩) ⟨rfl, trivial, rfl, trivial, rfl, trivial, rfl, trivial, rfl, trivial, rfl, trivial, trivial⟩) ?_
                        refine awl_skip rfl rfl ?_
                        refine awl_val hτ rfl rfl rfl ?_
                        refine awl_val hτ rfl rfl rfl ?_
                        refine awl_skip rfl rfl ?_
                        refine awl_skip rfl rfl ?_
                        refine awl_skip rfl rfl ?_
                        refine awl_skip rfl rfl ?_
                        refine awl_skip rfl rfl ?_
                        refine awl_val hτ rfl rfl rfl ?_
                        refine awl_nil ?_
                        refine aw_weak (weak_ofP [0, 1] (l := [(5, .d (.fl .f32 x54)), (6, .d (.fl .f32 x55)), (10, .row 0 x60.length 0 x60.length), (17, .row 1 x70.1.length 0 x70.1.length), (110, .d (.bool true))]) (objs := [.row 1 (x60.map eNatf32), .row 1 (x70.1.map eNatf32)]) rfl (by simp) rfl (by repeat' first | exact trivial | refine ⟨?_, ?_⟩) ⟨rfl, trivial, rfl, trivial, rfl, trivial, rfl, trivial, rfl, trivial, trivial⟩) ?_
                        exact hk138 true h
                      · have h := if_bf h hb149
                        refine awl_val hτ rfl rfl rfl ?_
                        refine awl_val hτ rfl rfl rfl ?_
                        refine bnd_elim h fun x150 hx150 h => ?_
                        refine awl_callP hτ false [] rfl rfl rfl (enterOk func11 rfl rfl) rfl rfl (by simp) ⟨trivial, trivial, trivial⟩ (by repeat' first | exact trivial | refine ⟨?_, ?_⟩) (spec_SameNumber_ok n x68.1 v67 hx150) ?_
                        rintro r0 o0 n0 ⟨rfl, rfl, rfl⟩ -
                        refine awl_weak (weak_ofP [0, 1] (l := [(5, .d (.fl .f32 x54)), (6, .d (.fl .f32 x55)), (10, .row 0 x60.length 0 x60.length), (17, .row 1 x70.1.length 0 x70.1.length), (98, .d (.bool false)), (101, .d (.bool x150))]) (objs := [.row 1 (x60.map eNatf32), .row 1 (x70.1.map eNatf32)]) rfl (by simp) rfl (by repeat' first | exact trivial | refine ⟨?_, ?_⟩) ⟨rfl, trivial, rfl, trivial, rfl, trivial, rfl, trivial, rfl, trivial, rfl, trivial, trivial⟩) ?_
                        refine awl_val hτ rfl rfl rfl ?_
                        refine awl_val hτ rfl rfl rfl ?_
                        refine awl_val hτ rfl rfl rfl ?_
                        refine awl_split 104 rfl (fun hb151 => ?_) (fun hb151 => ?_)
                        · have hb151 := not_t hb151
                          have h := if_bf h hb151
                          refine awl_skip rfl rfl ?_
                          refine awl_skip rfl rfl ?_
                          refine awl_skip rfl rfl ?_
                          refine awl_skip rfl rfl ?_
                          refine awl_skip rfl rfl ?_
                          refine awl_val hτ rfl rfl rfl ?_
                          refine awl_nil ?_
                          refine aw_weak (weak_ofP [0, 1] (l := [(5, .d (.fl .f32 x54)), (6, .d (.fl .f32 x55)), (10, .row 0 x60.length 0 x60.length), (17, .row 1 x70.1.length 0 x70.1.length), (110, .d (.bool true))]) (objs := [.row 1 (x60.map eNatf32), .row 1 (x70.1.map eNatf32)]) rfl (by simp) rfl (by repeat' first | exact trivial | refine ⟨?_, ?_⟩) ⟨rfl, trivial, rfl, trivial, rfl, trivial, rfl, trivial, rfl, trivial, trivial⟩) ?_
                          exact hk138 true h
                        · have hb151 := not_f hb151
                          have h := if_bt h hb151
                          refine awl_val hτ rfl rfl rfl ?_
                          refine awl_need hτ rfl rfl rfl (len_map _) ?_
                          refine awl_val hτ rfl rfl rfl ?_
                          refine awl_need hτ rfl rfl rfl (len_map _) ?_
                          refine awl_val hτ (v := .d (.bool (!(decide ((x70.1.length : Int) = (x60.length : Int)))))) rfl rfl (or_ine _ _) ?_
                          refine awl_val hτ rfl rfl rfl ?_
                          refine awl_nil ?_
                          refine aw_weak (weak_ofP [0, 1] (l := [(5, .d (.fl .f32 x54)), (6, .d (.fl .f32 x55)), (10, .row 0 x60.length 0 x60.length), (17, .row 1 x70.1.length 0 x70.1.length), (110, .d (.bool (!(decide ((x70.1.length : Int) = (x60.length : Int))))))]) (objs := [.row 1 (x60.map eNatf32), .row 1 (x70.1.map eNatf32)]) rfl (by simp) rfl (by repeat' first | exact trivial | refine ⟨?_, ?_⟩) ⟨rfl, trivial, rfl, trivial, rfl, trivial, rfl, trivial, rfl, trivial, trivial⟩) ?_
                          exact hk138 (!(decide ((x70.1.length : Int) = (x60.length : Int)))) h
    · refine aw_seq ?_
      refine aw_seq ?_
      refine aw_region ?_
      refine awl_val hτ rfl rfl rfl ?_
      refine awl_need hτ rfl rfl rfl (len_map _) ?_
      refine awl_val hτ rfl rfl rfl ?_
      refine awl_nil ?_
      refine aw_block ?_
      refine aw_loop (ι := Nat × Nat × Int) (fun (m159, v154, v155) => St.of [(5, .d (.fl .f32 x54)), (6, .d (.fl .f32 x55)), (7, .d (.fl .f32 x57.1)), (8, .d (.bool x57.2)), (9, .d (.fl .f32 x58)), (10, .row 0 x60.length 0 x60.length), (11, .d (.fl .f32 v154)), (40, .d (.int .i64 (x60.length : Int))), (41, .d (.int .i64 v155))] [.row 1 (x60.map eNatf32)] f4.ntmps 0) (fun (m159, v154, v155) => m_laws_FnNumbers_l6 n x54 x55 x57 x58 x60 m159 v154 v155 = some r) (fun x => x.1) (n, (0 : Nat), (0 : Int)) h (weak_ofP [0] (l := [(5, .d (.fl .f32 x54)), (6, .d (.fl .f32 x55)), (7, .d (.fl .f32 x57.1)), (8, .d (.bool x57.2)), (9, .d (.fl .f32 x58)), (10, .row 0 x60.length 0 x60.length), (11, .d (.fl .f32 (0 : Nat))), (40, .d (.int .i64 (x60.length : Int))), (41, .d (.int .i64 (0 : Int)))]) (objs := [.row 1 (x60.map eNatf32)]) rfl (by simp) rfl (by repeat' first | exact trivial | refine ⟨?_, ?_⟩) ⟨rfl, trivial, rfl, trivial, rfl, trivial, rfl, trivial, rfl, trivial, rfl, trivial, rfl, trivial, rfl, trivial, rfl, trivial, trivial⟩) ?_
      rintro ⟨m159, v154, v155⟩ h
      replace h : m_laws_FnNumbers_l6 n x54 x55 x57 x58 x60 m159 v154 v155 = some r := h
      rcases m159 with _ | m159
      · rw [m_laws_FnNumbers_l6] at h; cases h
      rw [m_laws_FnNumbers_l6] at h
      refine aw_seq ?_
      refine aw_region ?_
      refine awl_val hτ rfl rfl rfl ?_
      refine awl_nil ?_
      refine aw_seq ?_
      refine aw_cond rfl (fun hc161 => ?_) (fun hc161 => ?_)
      · have h := if_t h hc161
        refine aw_skip ?_
        refine aw_seq ?_
        refine aw_block ?_
        refine aw_seq ?_
        refine aw_region ?_
        refine awl_val hτ rfl rfl rfl ?_
        refine awl_val hτ rfl rfl rfl ?_
        refine awl_nil ?_
        refine aw_region ?_
        refine awl_val hτ rfl rfl rfl ?_
        refine awl_val hτ rfl rfl rfl ?_
        refine awl_val hτ rfl rfl rfl ?_
        refine bnd_elim h fun x162 hx162 h => ?_
        refine awl_need hτ rfl rfl rfl (row_need hx162) ?_
        refine awl_elem hτ rfl rfl rfl (len_map _) (row_get hx162) rfl ?_
        refine awl_val hτ rfl rfl rfl ?_
        refine awl_val hτ rfl rfl rfl ?_
        refine awl_nil ?_
        refine aw_weak (weak_ofP [0] (l := [(5, .d (.fl .f32 x54)), (6, .d (.fl .f32 x55)), (7, .d (.fl .f32 x57.1)), (8, .d (.bool x57.2)), (9, .d (.fl .f32 x58)), (10, .row 0 x60.length 0 x60.length), (11, .d (.fl .f32 (farith .add .f32 v154 x162))), (40, .d (.int .i64 (x60.length : Int))), (41, .d (.int .i64 v155))]) (objs := [.row 1 (x60.map eNatf32)]) rfl (by simp) rfl (by repeat' first | exact trivial | refine ⟨?_, ?_⟩) ⟨rfl, trivial, rfl, trivial, rfl, trivial, rfl, trivial, rfl, trivial, rfl, trivial, rfl, trivial, rfl, trivial, rfl, trivial, trivial⟩) ?_
        refine aw_region ?_
        refine awl_val hτ rfl rfl rfl ?_
        refine awl_val hτ rfl rfl rfl ?_
        refine awl_nil ?_
        exact ⟨(m159, (farith .add .f32 v154 x162), (w64 (v155 + (1 : Int)))), h, Nat.lt_succ_self m159, (weak_ofP [0] (l := [(5, .d (.fl .f32 x54)), (6, .d (.fl .f32 x55)), (7, .d (.fl .f32 x57.1)), (8, .d (.bool x57.2)), (9, .d (.fl .f32 x58)), (10, .row 0 x60.length 0 x60.length), (11, .d (.fl .f32 (farith .add .f32 v154 x162))), (40, .d (.int .i64 (x60.length : Int))), (41, .d (.int .i64 (w64 (v155 + (1 : Int)))))]) (objs := [.row 1 (x60.map eNatf32)]) rfl (by simp) rfl (by repeat' first | exact trivial | refine ⟨?_, ?_⟩) ⟨rfl, trivial, rfl, trivial, rfl, trivial, rfl, trivial, rfl, trivial, rfl, trivial, rfl, trivial, rfl, trivial, rfl, trivial, trivial⟩)⟩
      · have h := if_f h hc161
        refine aw_exit ?_
        refine aw_weak (weak_ofP [0] (l := [(5, .d (.fl .f32 x54)), (6, .d (.fl .f32 x55)), (7, .d (.fl .f32 x57.1)), (8, .d (.bool x57.2)), (9, .d (.fl .f32 x58)), (10, .row 0 x60.length 0 x60.length), (11, .d (.fl .f32 v154))]) (objs := [.row 1 (x60.map eNatf32)]) rfl (by simp) rfl (by repeat' first | exact trivial | refine ⟨?_, ?_⟩) ⟨rfl, trivial, rfl, trivial, rfl, trivial, rfl, trivial, rfl, trivial, rfl, trivial, rfl, trivial, trivial⟩) ?_
        exact hk152 v154 h
theorem laws_FnNumbers_ok (n : Nat) (code_ : List Int) (more_ : List Int) {r : Bool} (h : m_laws_FnNumbers n code_ more_ = some r) : ACall prog false 4 [.d (.sl false (code_.map eIntu8)), .d (.sl false (more_.map eIntu8))] [] (fun v o new => v = .d (.bool r) ∧ o = [] ∧ new = []) := laws_FnNumbers_ok_fr0 false n code_ more_ h
theorem laws_FnNumbers_ok_fr (n : Nat) (code_ : List Int) (more_ : List Int) {r : Bool} (h : m_laws_FnNumbers n code_ more_ = some r) : ACall prog true 4 [.d (.sl false (code_.map eIntu8)), .d (.sl false (more_.map eIntu8))] [] (fun v o new => v = .d (.bool r) ∧ o = [] ∧ new = []) := laws_FnNumbers_ok_fr0 true n code_ more_ h

end Go.Proofs.YtdgkahieegcmeaaDoor.AWN
