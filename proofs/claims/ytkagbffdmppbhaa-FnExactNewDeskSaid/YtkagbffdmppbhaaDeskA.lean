/- Models and contracts, printed by program. -/
import Derived.Test.YtkagbffdmppbhaaTypes
set_option linter.unusedVariables false
set_option linter.unusedSimpArgs false
namespace Go.Proofs.Ytkagbffdmppbhaa.AWN
open Go Go.Proofs.Try

structure SPhases where
  A : Cx
  B : Cx
  C : Cx
deriving DecidableEq
structure SBus where
  Parent : Int
  Own : Cx
  Shared : Cx
  Kind : Int
  Load : SPhases
  Customers : Int
deriving DecidableEq
structure STap where
  Bus : Int
  A : Int
  B : Int
  C : Int
  Each : Nat
deriving DecidableEq
structure SOutage where
  Bus : Int
  From : Int
  Until : Int
deriving DecidableEq
structure SFeeder where
  Source : SPhases
  Buses : List SBus
deriving DecidableEq
structure SDesk where
  Feeder : SFeeder
  Taps : List STap
  List : List SOutage
deriving DecidableEq
def eSBus (x : SBus) : List D := [.int .i64 x.Parent, .cx .f32 x.Own.re x.Own.im, .cx .f32 x.Shared.re x.Shared.im, .int .i64 x.Kind, .cx .f32 x.Load.A.re x.Load.A.im, .cx .f32 x.Load.B.re x.Load.B.im, .cx .f32 x.Load.C.re x.Load.C.im, .int .i64 x.Customers]
@[simp] theorem eSBus_len (x : SBus) : (eSBus x).length = 8 := rfl
theorem eSBus_flat (x : SBus) : ∀ c ∈ eSBus x, c.flat := by simp [eSBus, D.flat]
def eSTap (x : STap) : List D := [.int .i64 x.Bus, .int .i64 x.A, .int .i64 x.B, .int .i64 x.C, .fl .f32 x.Each]
@[simp] theorem eSTap_len (x : STap) : (eSTap x).length = 5 := rfl
theorem eSTap_flat (x : STap) : ∀ c ∈ eSTap x, c.flat := by simp [eSTap, D.flat]
def eSOutage (x : SOutage) : List D := [.int .i64 x.Bus, .int .i64 x.From, .int .i64 x.Until]
@[simp] theorem eSOutage_len (x : SOutage) : (eSOutage x).length = 3 := rfl
theorem eSOutage_flat (x : SOutage) : ∀ c ∈ eSOutage x, c.flat := by simp [eSOutage, D.flat]

theorem ext207 {x : Int} (hx : x.toNat < 4294967296) : ExtDoes prog 207 [.d (.int .u32 x)] (.d (.fl .f32 (canon .f32 x.toNat))) := extDoes (e := Extern.MathFloatBits.float32frombits) func207 rfl rfl (by kernel_rfl) (by kernel_rfl) fun W hb H ok vals h => frombits_run (k := .f32) (fun _ => rfl) hx h
theorem ext211 {x : Int} (hx : x.toNat < 18446744073709551616) : ExtDoes prog 211 [.d (.int .u64 x)] (.d (.fl .f64 (canon .f64 x.toNat))) := extDoes (e := Extern.MathFloatBits.float64frombits) func211 rfl rfl (by kernel_rfl) (by kernel_rfl) fun W hb H ok vals h => frombits_run (k := .f64) (fun _ => rfl) hx h
theorem ext212 {x : Nat} (hx : isnan .f64 x = false) : ExtDoes prog 212 [.d (.fl .f64 x)] (.d (.int .u64 x)) := extDoes (e := Extern.MathFloatBits.float64bits) func212 rfl rfl (by kernel_rfl) (by kernel_rfl) fun W hb H ok vals h => bits_run (fun _ => rfl) hx h
theorem ext214 {x : Nat} (hx : isnan .f64 x = false) : ExtDoes prog 214 [.d (.fl .f64 x)] (.d (.fl .f64 (fint .zero x))) := extDoes (e := Extern.MathFloor.toIntegral "math.archTrunc" .zero) func214 rfl rfl (by kernel_rfl) (by kernel_rfl) fun W hb H ok vals h => integral_run (name := "math.archTrunc") hx h
def m_spec_l01From (n : Nat) (n_ : Int) : Option Nat :=
  grd ((IntKind.wrap .u32 (n_)).toNat < 4294967296) <|
  some (canon .f32 (IntKind.wrap .u32 (n_)).toNat)
theorem spec_l01From_ok_fr0 (fr : Bool) (n : Nat) (n_ : Int) {r : Nat} (h : m_spec_l01From n n_ = some r) : ACall prog fr 189 [.d (.int .i64 n_)] [] (fun v o new => v = .d (.fl .f32 r) ∧ o = [] ∧ new = []) := by
  refine acall_of_aw hτ func189 rfl (by simp) (by simp) ?_
  unfold m_spec_l01From at h
  refine aw_seq ?_
  refine aw_region ?_
  refine awl_val hτ rfl rfl rfl ?_
  refine awl_nil ?_
  refine aw_seq ?_
  refine aw_region ?_
  refine awl_val hτ rfl rfl rfl ?_
  refine awl_val hτ rfl rfl rfl ?_
  refine grd_elim h fun hg2 h => ?_
  refine awl_ext hτ rfl rfl rfl (ext207 hg2) ?_
  refine awl_val hτ rfl rfl rfl ?_
  refine awl_nil ?_
  refine aw_weak (weak_ofP [] (l := [(2, .d (.fl .f32 (canon .f32 (IntKind.wrap .u32 (n_)).toNat)))]) (objs := []) rfl (by simp) rfl (by repeat' first | exact trivial | refine ⟨?_, ?_⟩) ⟨rfl, trivial, trivial⟩) ?_
  refine aw_ret ?_
  have hr := Option.some.inj h
  subst hr
  exact ret_objs (.inr rfl) [] (objs' := []) (new := []) rfl (by simp) (by simp) rfl (by repeat' first | exact trivial | refine ⟨?_, ?_⟩) rfl rfl (by repeat' first | exact trivial | refine ⟨?_, ?_⟩) (fun _ => ⟨by simp [V.flat, V.flatA, V.flatC, D.flat], flat_nil⟩) ⟨rfl, rfl, rfl⟩
theorem spec_l01From_ok (n : Nat) (n_ : Int) {r : Nat} (h : m_spec_l01From n n_ = some r) : ACall prog false 189 [.d (.int .i64 n_)] [] (fun v o new => v = .d (.fl .f32 r) ∧ o = [] ∧ new = []) := spec_l01From_ok_fr0 false n n_ h
theorem spec_l01From_ok_fr (n : Nat) (n_ : Int) {r : Nat} (h : m_spec_l01From n n_ = some r) : ACall prog true 189 [.d (.int .i64 n_)] [] (fun v o new => v = .d (.fl .f32 r) ∧ o = [] ∧ new = []) := spec_l01From_ok_fr0 true n n_ h

def m_math_NaN (n : Nat) : Option Nat :=
  grd ((9221120237041090561 : Int).toNat < 18446744073709551616) <|
  some (canon .f64 (9221120237041090561 : Int).toNat)
theorem math_NaN_ok_fr0 (fr : Bool) (n : Nat) {r : Nat} (h : m_math_NaN n = some r) : ACall prog fr 208 [] [] (fun v o new => v = .d (.fl .f64 r) ∧ o = [] ∧ new = []) := by
  refine acall_of_aw hτ func208 rfl (by simp) (by simp) ?_
  unfold m_math_NaN at h
  refine aw_seq ?_
  refine aw_region ?_
  refine awl_val hτ rfl rfl rfl ?_
  refine awl_nil ?_
  refine aw_seq ?_
  refine aw_region ?_
  refine grd_elim h fun hg2 h => ?_
  refine awl_ext hτ rfl rfl rfl (ext211 hg2) ?_
  refine awl_val hτ rfl rfl rfl ?_
  refine awl_nil ?_
  refine aw_weak (weak_ofP [] (l := [(0, .d (.fl .f64 (canon .f64 (9221120237041090561 : Int).toNat)))]) (objs := []) rfl (by simp) rfl (by repeat' first | exact trivial | refine ⟨?_, ?_⟩) ⟨rfl, trivial, trivial⟩) ?_
  refine aw_ret ?_
  have hr := Option.some.inj h
  subst hr
  exact ret_objs (.inr rfl) [] (objs' := []) (new := []) rfl (by simp) (by simp) rfl (by repeat' first | exact trivial | refine ⟨?_, ?_⟩) rfl rfl (by repeat' first | exact trivial | refine ⟨?_, ?_⟩) (fun _ => ⟨by simp [V.flat, V.flatA, V.flatC, D.flat], flat_nil⟩) ⟨rfl, rfl, rfl⟩
theorem math_NaN_ok (n : Nat) {r : Nat} (h : m_math_NaN n = some r) : ACall prog false 208 [] [] (fun v o new => v = .d (.fl .f64 r) ∧ o = [] ∧ new = []) := math_NaN_ok_fr0 false n h
theorem math_NaN_ok_fr (n : Nat) {r : Nat} (h : m_math_NaN n = some r) : ACall prog true 208 [] [] (fun v o new => v = .d (.fl .f64 r) ∧ o = [] ∧ new = []) := math_NaN_ok_fr0 true n h

def m_spec_l01SineWide_j5 (n : Nat) (v19 : Nat) (v23 : Nat) (v28 : Nat) : Option Nat :=
  if (fcmp .geq .f64 v19 (4602678819172646912 : Nat)) = true then
    some (fneg .f64 (farith .mul .f64 (farith .mul .f64 v23 (4618760256179416344 : Nat)) v28))
  else
    some (farith .mul .f64 (farith .mul .f64 v23 (4618760256179416344 : Nat)) v28)
def m_spec_l01SineWide_l6 (n : Nat) (v19 : Nat) (v23 : Nat) : Nat → Nat → Int → Option Nat
  | 0, _, _ => none
  | m35 + 1, v31, v32 =>
    if v32 ≥ (1 : Int) then
      (m_spec_l01SineWide_l6 n v19 v23 m35) (farith .sub .f64 (4607182418800017408 : Nat) (farith .quo .f64 (farith .mul .f64 (farith .mul .f64 (farith .mul .f64 v23 (4618760256179416344 : Nat)) (farith .mul .f64 v23 (4618760256179416344 : Nat))) v31) (FloatKind.nearest .f64 (w64 ((w64 ((2 : Int) * v32)) * (w64 ((w64 ((2 : Int) * v32)) + (1 : Int)))))))) (w64 (v32 - (1 : Int)))
    else
      m_spec_l01SineWide_j5 n v19 v23 v31
def m_spec_l01SineWide_j4 (n : Nat) (v19 : Nat) (v23 : Nat) : Option Nat :=
  m_spec_l01SineWide_l6 n v19 v23 n (4607182418800017408 : Nat) (8 : Int)
def m_spec_l01SineWide_j3 (n : Nat) (v19 : Nat) (v21 : Nat) : Option Nat :=
  if (fcmp .gtr .f64 v21 (4598175219545276416 : Nat)) = true then
    m_spec_l01SineWide_j4 n v19 (farith .sub .f64 (4602678819172646912 : Nat) v21)
  else
    m_spec_l01SineWide_j4 n v19 v21
def m_spec_l01SineWide_j2 (n : Nat) (v19 : Nat) : Option Nat :=
  if (fcmp .geq .f64 v19 (4602678819172646912 : Nat)) = true then
    m_spec_l01SineWide_j3 n v19 (farith .sub .f64 v19 (4602678819172646912 : Nat))
  else
    m_spec_l01SineWide_j3 n v19 v19
def m_spec_l01SineWide_j1 (n : Nat) (y_ : Nat) : Option Nat :=
  (f2i .f64 .i64 y_).bind fun x17 =>
  if (fcmp .lss .f64 (farith .sub .f64 y_ (FloatKind.nearest .f64 x17)) (0 : Nat)) = true then
    m_spec_l01SineWide_j2 n (farith .add .f64 (farith .sub .f64 y_ (FloatKind.nearest .f64 x17)) (4607182418800017408 : Nat))
  else
    m_spec_l01SineWide_j2 n (farith .sub .f64 y_ (FloatKind.nearest .f64 x17))
def m_spec_l01SineWide_j7 (n : Nat) (y_ : Nat) (v47 : Bool) : Option Nat :=
  if v47 = true then
    some (0 : Nat)
  else
    m_spec_l01SineWide_j1 n y_
def m_spec_l01SineWide (n : Nat) (y_ : Nat) : Option Nat :=
  if (fcmp .neq .f64 (farith .sub .f64 y_ y_) (0 : Nat)) = true then
    (m_math_NaN n).bind fun x14 =>
    some x14
  else
    if (fcmp .geq .f64 y_ (4841369599423283200 : Nat)) = true then
      m_spec_l01SineWide_j7 n y_ true
    else
      m_spec_l01SineWide_j7 n y_ (fcmp .leq .f64 y_ (14064741636278059008 : Nat))
theorem spec_l01SineWide_ok_fr0 (fr : Bool) (n : Nat) (y_ : Nat) {r : Nat} (h : m_spec_l01SineWide n y_ = some r) : ACall prog fr 190 [.d (.fl .f64 y_)] [] (fun v o new => v = .d (.fl .f64 r) ∧ o = [] ∧ new = []) := by
  refine acall_of_aw hτ func190 rfl (by simp) (by simp) ?_
  unfold m_spec_l01SineWide at h
  refine aw_seq ?_
  refine aw_region ?_
  refine awl_val hτ rfl rfl rfl ?_
  refine awl_nil ?_
  refine aw_seq ?_
  refine aw_seq ?_
  refine aw_region ?_
  refine awl_val hτ rfl rfl rfl ?_
  refine awl_val hτ rfl rfl rfl ?_
  refine awl_val hτ rfl rfl rfl ?_
  refine awl_val hτ rfl rfl rfl ?_
  refine awl_nil ?_
  refine aw_cond rfl (fun hc13 => ?_) (fun hc13 => ?_)
  · have h := if_bt h hc13
    refine aw_seq ?_
    refine aw_region ?_
    refine bnd_elim h fun x14 hx14 h => ?_
    refine awl_callP hτ false [] rfl rfl rfl (enterOk func208 rfl rfl) rfl rfl (by simp) trivial (by repeat' first | exact trivial | refine ⟨?_, ?_⟩) (math_NaN_ok n hx14) ?_
    rintro r0 o0 n0 ⟨rfl, rfl, rfl⟩ -
    refine awl_val hτ rfl rfl rfl ?_
    refine awl_nil ?_
    refine aw_weak (weak_ofP [] (l := [(2, .d (.fl .f64 x14))]) (objs := []) rfl (by simp) rfl (by repeat' first | exact trivial | refine ⟨?_, ?_⟩) ⟨rfl, trivial, trivial⟩) ?_
    refine aw_ret ?_
    have hr := Option.some.inj h
    subst hr
    exact ret_objs (.inr rfl) [] (objs' := []) (new := []) rfl (by simp) (by simp) rfl (by repeat' first | exact trivial | refine ⟨?_, ?_⟩) rfl rfl (by repeat' first | exact trivial | refine ⟨?_, ?_⟩) (fun _ => ⟨by simp [V.flat, V.flatA, V.flatC, D.flat], flat_nil⟩) ⟨rfl, rfl, rfl⟩
  · have h := if_bf h hc13
    refine aw_skip ?_
    refine aw_hk1 (ι := Unit) (fun _ => St.of [(0, .d (.fl .f64 y_))] [] f190.ntmps 0) (fun _ => m_spec_l01SineWide_j1 n y_ = some r) ?_ (fun hk44 => ?_)
    · rintro ⟨⟩ h
      replace h : m_spec_l01SineWide_j1 n y_ = some r := h
      unfold m_spec_l01SineWide_j1 at h
      refine aw_seq ?_
      refine aw_region ?_
      refine awl_val hτ rfl rfl rfl ?_
      refine awl_val hτ rfl rfl rfl ?_
      refine bnd_elim h fun x17 hx17 h => ?_
      refine awl_x rfl rfl (x_f2i hτ rfl rfl rfl rfl rfl rfl hx17) ?_
      refine awl_val hτ rfl rfl rfl ?_
      refine awl_val hτ rfl rfl rfl ?_
      refine awl_val hτ rfl rfl rfl ?_
      refine awl_nil ?_
      refine aw_hk1 (ι := Nat) (fun v19 => St.of [(3, .d (.fl .f64 v19))] [] f190.ntmps 0) (fun v19 => m_spec_l01SineWide_j2 n v19 = some r) ?_ (fun hk42 => ?_)
      · rintro v19 h
        replace h : m_spec_l01SineWide_j2 n v19 = some r := h
        unfold m_spec_l01SineWide_j2 at h
        refine aw_seq ?_
        refine aw_region ?_
        refine awl_val hτ rfl rfl rfl ?_
        refine awl_val hτ rfl rfl rfl ?_
        refine awl_val hτ rfl rfl rfl ?_
        refine awl_nil ?_
        refine aw_hk1 (ι := Nat) (fun v21 => St.of [(3, .d (.fl .f64 v21)), (4, .d (.bool (fcmp .geq .f64 v19 (4602678819172646912 : Nat))))] [] f190.ntmps 0) (fun v21 => m_spec_l01SineWide_j3 n v19 v21 = some r) ?_ (fun hk40 => ?_)
        · rintro v21 h
          replace h : m_spec_l01SineWide_j3 n v19 v21 = some r := h
          unfold m_spec_l01SineWide_j3 at h
          refine aw_hk1 (ι := Nat) (fun v23 => St.of [(3, .d (.fl .f64 v23)), (4, .d (.bool (fcmp .geq .f64 v19 (4602678819172646912 : Nat))))] [] f190.ntmps 0) (fun v23 => m_spec_l01SineWide_j4 n v19 v23 = some r) ?_ (fun hk38 => ?_)
          · rintro v23 h
            replace h : m_spec_l01SineWide_j4 n v19 v23 = some r := h
            unfold m_spec_l01SineWide_j4 at h
            refine aw_seq ?_
            refine aw_region ?_
            refine awl_val hτ rfl rfl rfl ?_
            refine awl_val hτ rfl rfl rfl ?_
            refine awl_val hτ rfl rfl rfl ?_
            refine awl_nil ?_
            refine aw_seq ?_
            refine aw_region ?_
            refine awl_val hτ rfl rfl rfl ?_
            refine awl_val hτ rfl rfl rfl ?_
            refine awl_val hτ rfl rfl rfl ?_
            refine awl_val hτ rfl rfl rfl ?_
            refine awl_nil ?_
            refine aw_seq ?_
            refine aw_weak (weak_ofP [] (l := [(4, .d (.bool (fcmp .geq .f64 v19 (4602678819172646912 : Nat)))), (5, .d (.fl .f64 (farith .mul .f64 v23 (4618760256179416344 : Nat)))), (6, .d (.fl .f64 (farith .mul .f64 (farith .mul .f64 v23 (4618760256179416344 : Nat)) (farith .mul .f64 v23 (4618760256179416344 : Nat)))))]) (objs := []) rfl (by simp) rfl (by repeat' first | exact trivial | refine ⟨?_, ?_⟩) ⟨rfl, trivial, rfl, trivial, rfl, trivial, trivial⟩) ?_
            refine aw_region ?_
            refine awl_val hτ rfl rfl rfl ?_
            refine awl_nil ?_
            refine aw_hk1 (ι := Nat) (fun v28 => St.of [(4, .d (.bool (fcmp .geq .f64 v19 (4602678819172646912 : Nat)))), (5, .d (.fl .f64 (farith .mul .f64 v23 (4618760256179416344 : Nat)))), (7, .d (.fl .f64 v28))] [] f190.ntmps 0) (fun v28 => m_spec_l01SineWide_j5 n v19 v23 v28 = some r) ?_ (fun hk30 => ?_)
            · rintro v28 h
              replace h : m_spec_l01SineWide_j5 n v19 v23 v28 = some r := h
              unfold m_spec_l01SineWide_j5 at h
              refine aw_seq ?_
              refine aw_seq ?_
              refine aw_region ?_
              refine awl_val hτ rfl rfl rfl ?_
              refine awl_nil ?_
              refine aw_cond rfl (fun hc29 => ?_) (fun hc29 => ?_)
              · have h := if_bt h hc29
                refine aw_seq ?_
                refine aw_region ?_
                refine awl_val hτ rfl rfl rfl ?_
                refine awl_val hτ rfl rfl rfl ?_
                refine awl_val hτ rfl rfl rfl ?_
                refine awl_val hτ rfl rfl rfl ?_
                refine awl_val hτ rfl rfl rfl ?_
                refine awl_nil ?_
                refine aw_weak (weak_ofP [] (l := [(2, .d (.fl .f64 (fneg .f64 (farith .mul .f64 (farith .mul .f64 v23 (4618760256179416344 : Nat)) v28))))]) (objs := []) rfl (by simp) rfl (by repeat' first | exact trivial | refine ⟨?_, ?_⟩) ⟨rfl, trivial, trivial⟩) ?_
                refine aw_ret ?_
                have hr := Option.some.inj h
                subst hr
                exact ret_objs (.inr rfl) [] (objs' := []) (new := []) rfl (by simp) (by simp) rfl (by repeat' first | exact trivial | refine ⟨?_, ?_⟩) rfl rfl (by repeat' first | exact trivial | refine ⟨?_, ?_⟩) (fun _ => ⟨by simp [V.flat, V.flatA, V.flatC, D.flat], flat_nil⟩) ⟨rfl, rfl, rfl⟩
              · have h := if_bf h hc29
                refine aw_skip ?_
                refine aw_seq ?_
                refine aw_region ?_
                refine awl_val hτ rfl rfl rfl ?_
                refine awl_val hτ rfl rfl rfl ?_
                refine awl_val hτ rfl rfl rfl ?_
                refine awl_val hτ rfl rfl rfl ?_
                refine awl_nil ?_
                refine aw_weak (weak_ofP [] (l := [(2, .d (.fl .f64 (farith .mul .f64 (farith .mul .f64 v23 (4618760256179416344 : Nat)) v28)))]) (objs := []) rfl (by simp) rfl (by repeat' first | exact trivial | refine ⟨?_, ?_⟩) ⟨rfl, trivial, trivial⟩) ?_
                refine aw_ret ?_
                have hr := Option.some.inj h
                subst hr
                exact ret_objs (.inr rfl) [] (objs' := []) (new := []) rfl (by simp) (by simp) rfl (by repeat' first | exact trivial | refine ⟨?_, ?_⟩) rfl rfl (by repeat' first | exact trivial | refine ⟨?_, ?_⟩) (fun _ => ⟨by simp [V.flat, V.flatA, V.flatC, D.flat], flat_nil⟩) ⟨rfl, rfl, rfl⟩
            · refine aw_seq ?_
              refine aw_seq ?_
              refine aw_region ?_
              refine awl_val hτ rfl rfl rfl ?_
              refine awl_nil ?_
              refine aw_block ?_
              refine aw_loop (ι := Nat × Nat × Int) (fun (m35, v31, v32) => St.of [(4, .d (.bool (fcmp .geq .f64 v19 (4602678819172646912 : Nat)))), (5, .d (.fl .f64 (farith .mul .f64 v23 (4618760256179416344 : Nat)))), (6, .d (.fl .f64 (farith .mul .f64 (farith .mul .f64 v23 (4618760256179416344 : Nat)) (farith .mul .f64 v23 (4618760256179416344 : Nat))))), (7, .d (.fl .f64 v31)), (8, .d (.int .i64 v32))] [] f190.ntmps 0) (fun (m35, v31, v32) => m_spec_l01SineWide_l6 n v19 v23 m35 v31 v32 = some r) (fun x => x.1) (n, (4607182418800017408 : Nat), (8 : Int)) h (weak_ofP [] (l := [(4, .d (.bool (fcmp .geq .f64 v19 (4602678819172646912 : Nat)))), (5, .d (.fl .f64 (farith .mul .f64 v23 (4618760256179416344 : Nat)))), (6, .d (.fl .f64 (farith .mul .f64 (farith .mul .f64 v23 (4618760256179416344 : Nat)) (farith .mul .f64 v23 (4618760256179416344 : Nat))))), (7, .d (.fl .f64 (4607182418800017408 : Nat))), (8, .d (.int .i64 (8 : Int)))]) (objs := []) rfl (by simp) rfl (by repeat' first | exact trivial | refine ⟨?_, ?_⟩) ⟨rfl, trivial, rfl, trivial, rfl, trivial, rfl, trivial, rfl, trivial, trivial⟩) ?_
              rintro ⟨m35, v31, v32⟩ h
              replace h : m_spec_l01SineWide_l6 n v19 v23 m35 v31 v32 = some r := h
              rcases m35 with _ | m35
              · rw [m_spec_l01SineWide_l6] at h; cases h
              rw [m_spec_l01SineWide_l6] at h
              refine aw_seq ?_
              refine aw_seq ?_
              refine aw_region ?_
              refine awl_val hτ rfl rfl rfl ?_
              refine awl_val hτ rfl rfl rfl ?_
              refine awl_nil ?_
              refine aw_cond rfl (fun hc37 => ?_) (fun hc37 => ?_)
              · have h := if_t h hc37
                refine aw_skip ?_
                refine aw_seq ?_
                refine aw_block ?_
                refine aw_region ?_
                refine awl_val hτ rfl rfl rfl ?_
                refine awl_val hτ rfl rfl rfl ?_
                refine awl_val hτ rfl rfl rfl ?_
                refine awl_val hτ rfl rfl rfl ?_
                refine awl_val hτ rfl rfl rfl ?_
                refine awl_val hτ rfl rfl rfl ?_
                refine awl_val hτ rfl rfl rfl ?_
                refine awl_val hτ rfl rfl rfl ?_
                refine awl_val hτ rfl rfl rfl ?_
                refine awl_val hτ rfl rfl rfl ?_
                refine awl_val hτ rfl rfl rfl ?_
                refine awl_val hτ rfl rfl rfl ?_
                refine awl_val hτ rfl rfl rfl ?_
                refine awl_nil ?_
                refine aw_weak (weak_ofP [] (l := [(4, .d (.bool (fcmp .geq .f64 v19 (4602678819172646912 : Nat)))), (5, .d (.fl .f64 (farith .mul .f64 v23 (4618760256179416344 : Nat)))), (6, .d (.fl .f64 (farith .mul .f64 (farith .mul .f64 v23 (4618760256179416344 : Nat)) (farith .mul .f64 v23 (4618760256179416344 : Nat))))), (7, .d (.fl .f64 (farith .sub .f64 (4607182418800017408 : Nat) (farith .quo .f64 (farith .mul .f64 (farith .mul .f64 (farith .mul .f64 v23 (4618760256179416344 : Nat)) (farith .mul .f64 v23 (4618760256179416344 : Nat))) v31) (FloatKind.nearest .f64 (w64 ((w64 ((2 : Int) * v32)) * (w64 ((w64 ((2 : Int) * v32)) + (1 : Int)))))))))), (8, .d (.int .i64 v32))]) (objs := []) rfl (by simp) rfl (by repeat' first | exact trivial | refine ⟨?_, ?_⟩) ⟨rfl, trivial, rfl, trivial, rfl, trivial, rfl, trivial, rfl, trivial, trivial⟩) ?_
                refine aw_region ?_
                refine awl_val hτ rfl rfl rfl ?_
                refine awl_val hτ rfl rfl rfl ?_
                refine awl_val hτ rfl rfl rfl ?_
                refine awl_nil ?_
                exact ⟨(m35, (farith .sub .f64 (4607182418800017408 : Nat) (farith .quo .f64 (farith .mul .f64 (farith .mul .f64 (farith .mul .f64 v23 (4618760256179416344 : Nat)) (farith .mul .f64 v23 (4618760256179416344 : Nat))) v31) (FloatKind.nearest .f64 (w64 ((w64 ((2 : Int) * v32)) * (w64 ((w64 ((2 : Int) * v32)) + (1 : Int)))))))), (w64 (v32 - (1 : Int)))), h, Nat.lt_succ_self m35, (weak_ofP [] (l := [(4, .d (.bool (fcmp .geq .f64 v19 (4602678819172646912 : Nat)))), (5, .d (.fl .f64 (farith .mul .f64 v23 (4618760256179416344 : Nat)))), (6, .d (.fl .f64 (farith .mul .f64 (farith .mul .f64 v23 (4618760256179416344 : Nat)) (farith .mul .f64 v23 (4618760256179416344 : Nat))))), (7, .d (.fl .f64 (farith .sub .f64 (4607182418800017408 : Nat) (farith .quo .f64 (farith .mul .f64 (farith .mul .f64 (farith .mul .f64 v23 (4618760256179416344 : Nat)) (farith .mul .f64 v23 (4618760256179416344 : Nat))) v31) (FloatKind.nearest .f64 (w64 ((w64 ((2 : Int) * v32)) * (w64 ((w64 ((2 : Int) * v32)) + (1 : Int)))))))))), (8, .d (.int .i64 (w64 (v32 - (1 : Int)))))]) (objs := []) rfl (by simp) rfl (by repeat' first | exact trivial | refine ⟨?_, ?_⟩) ⟨rfl, trivial, rfl, trivial, rfl, trivial, rfl, trivial, rfl, trivial, trivial⟩)⟩
              · have h := if_f h hc37
                refine aw_exit ?_
                refine aw_weak (weak_ofP [] (l := [(4, .d (.bool (fcmp .geq .f64 v19 (4602678819172646912 : Nat)))), (5, .d (.fl .f64 (farith .mul .f64 v23 (4618760256179416344 : Nat)))), (7, .d (.fl .f64 v31))]) (objs := []) rfl (by simp) rfl (by repeat' first | exact trivial | refine ⟨?_, ?_⟩) ⟨rfl, trivial, rfl, trivial, rfl, trivial, trivial⟩) ?_
                exact hk30 v31 h
          · refine aw_seq ?_
            refine aw_seq ?_
            refine aw_region ?_
            refine awl_val hτ rfl rfl rfl ?_
            refine awl_val hτ rfl rfl rfl ?_
            refine awl_nil ?_
            refine aw_cond rfl (fun hc39 => ?_) (fun hc39 => ?_)
            · have h := if_bt h hc39
              refine aw_region ?_
              refine awl_val hτ rfl rfl rfl ?_
              refine awl_val hτ rfl rfl rfl ?_
              refine awl_val hτ rfl rfl rfl ?_
              refine awl_nil ?_
              refine aw_weak (weak_ofP [] (l := [(3, .d (.fl .f64 (farith .sub .f64 (4602678819172646912 : Nat) v21))), (4, .d (.bool (fcmp .geq .f64 v19 (4602678819172646912 : Nat))))]) (objs := []) rfl (by simp) rfl (by repeat' first | exact trivial | refine ⟨?_, ?_⟩) ⟨rfl, trivial, rfl, trivial, trivial⟩) ?_
              exact hk38 (farith .sub .f64 (4602678819172646912 : Nat) v21) h
            · have h := if_bf h hc39
              refine aw_skip ?_
              refine aw_weak (weak_ofP [] (l := [(3, .d (.fl .f64 v21)), (4, .d (.bool (fcmp .geq .f64 v19 (4602678819172646912 : Nat))))]) (objs := []) rfl (by simp) rfl (by repeat' first | exact trivial | refine ⟨?_, ?_⟩) ⟨rfl, trivial, rfl, trivial, trivial⟩) ?_
              exact hk38 v21 h
        · refine aw_seq ?_
          refine aw_seq ?_
          refine aw_region ?_
          refine awl_val hτ rfl rfl rfl ?_
          refine awl_nil ?_
          refine aw_cond rfl (fun hc41 => ?_) (fun hc41 => ?_)
          · have h := if_bt h hc41
            refine aw_region ?_
            refine awl_val hτ rfl rfl rfl ?_
            refine awl_val hτ rfl rfl rfl ?_
            refine awl_val hτ rfl rfl rfl ?_
            refine awl_nil ?_
            refine aw_weak (weak_ofP [] (l := [(3, .d (.fl .f64 (farith .sub .f64 v19 (4602678819172646912 : Nat)))), (4, .d (.bool (fcmp .geq .f64 v19 (4602678819172646912 : Nat))))]) (objs := []) rfl (by simp) rfl (by repeat' first | exact trivial | refine ⟨?_, ?_⟩) ⟨rfl, trivial, rfl, trivial, trivial⟩) ?_
            exact hk40 (farith .sub .f64 v19 (4602678819172646912 : Nat)) h
          · have h := if_bf h hc41
            refine aw_skip ?_
            refine aw_weak (weak_ofP [] (l := [(3, .d (.fl .f64 v19)), (4, .d (.bool (fcmp .geq .f64 v19 (4602678819172646912 : Nat))))]) (objs := []) rfl (by simp) rfl (by repeat' first | exact trivial | refine ⟨?_, ?_⟩) ⟨rfl, trivial, rfl, trivial, trivial⟩) ?_
            exact hk40 v19 h
      · refine aw_seq ?_
        refine aw_seq ?_
        refine aw_weak (weak_ofP [] (l := [(3, .d (.fl .f64 (farith .sub .f64 y_ (FloatKind.nearest .f64 x17))))]) (objs := []) rfl (by simp) rfl (by repeat' first | exact trivial | refine ⟨?_, ?_⟩) ⟨rfl, trivial, trivial⟩) ?_
        refine aw_region ?_
        refine awl_val hτ rfl rfl rfl ?_
        refine awl_val hτ rfl rfl rfl ?_
        refine awl_nil ?_
        refine aw_cond rfl (fun hc43 => ?_) (fun hc43 => ?_)
        · have h := if_bt h hc43
          refine aw_region ?_
          refine awl_val hτ rfl rfl rfl ?_
          refine awl_val hτ rfl rfl rfl ?_
          refine awl_val hτ rfl rfl rfl ?_
          refine awl_nil ?_
          refine aw_weak (weak_ofP [] (l := [(3, .d (.fl .f64 (farith .add .f64 (farith .sub .f64 y_ (FloatKind.nearest .f64 x17)) (4607182418800017408 : Nat))))]) (objs := []) rfl (by simp) rfl (by repeat' first | exact trivial | refine ⟨?_, ?_⟩) ⟨rfl, trivial, trivial⟩) ?_
          exact hk42 (farith .add .f64 (farith .sub .f64 y_ (FloatKind.nearest .f64 x17)) (4607182418800017408 : Nat)) h
        · have h := if_bf h hc43
          refine aw_skip ?_
          refine aw_weak (weak_ofP [] (l := [(3, .d (.fl .f64 (farith .sub .f64 y_ (FloatKind.nearest .f64 x17))))]) (objs := []) rfl (by simp) rfl (by repeat' first | exact trivial | refine ⟨?_, ?_⟩) ⟨rfl, trivial, trivial⟩) ?_
          exact hk42 (farith .sub .f64 y_ (FloatKind.nearest .f64 x17)) h
    · refine aw_seq ?_
      refine aw_hk1 (ι := Bool) (fun v47 => St.of [(0, .d (.fl .f64 y_)), (19, .d (.bool v47))] [] f190.ntmps 0) (fun v47 => m_spec_l01SineWide_j7 n y_ v47 = some r) ?_ (fun hk49 => ?_)
      · rintro v47 h
        replace h : m_spec_l01SineWide_j7 n y_ v47 = some r := h
        unfold m_spec_l01SineWide_j7 at h
        refine aw_cond rfl (fun hc48 => ?_) (fun hc48 => ?_)
        · have h := if_bt h hc48
          refine aw_seq ?_
          refine aw_region ?_
          refine awl_val hτ rfl rfl rfl ?_
          refine awl_nil ?_
          refine aw_weak (weak_ofP [] (l := [(2, .d (.fl .f64 (0 : Nat)))]) (objs := []) rfl (by simp) rfl (by repeat' first | exact trivial | refine ⟨?_, ?_⟩) ⟨rfl, trivial, trivial⟩) ?_
          refine aw_ret ?_
          have hr := Option.some.inj h
          subst hr
          exact ret_objs (.inr rfl) [] (objs' := []) (new := []) rfl (by simp) (by simp) rfl (by repeat' first | exact trivial | refine ⟨?_, ?_⟩) rfl rfl (by repeat' first | exact trivial | refine ⟨?_, ?_⟩) (fun _ => ⟨by simp [V.flat, V.flatA, V.flatC, D.flat], flat_nil⟩) ⟨rfl, rfl, rfl⟩
        · have h := if_bf h hc48
          refine aw_skip ?_
          refine aw_weak (weak_ofP [] (l := [(0, .d (.fl .f64 y_))]) (objs := []) rfl (by simp) rfl (by repeat' first | exact trivial | refine ⟨?_, ?_⟩) ⟨rfl, trivial, trivial⟩) ?_
          exact hk44 () h
      · refine aw_seq ?_
        refine aw_region ?_
        refine awl_val hτ rfl rfl rfl ?_
        refine awl_val hτ rfl rfl rfl ?_
        refine awl_val hτ rfl rfl rfl ?_
        refine awl_split 16 rfl (fun hb50 => ?_) (fun hb50 => ?_)
        · have h := if_bt h hb50
          refine awl_skip rfl rfl ?_
          refine awl_skip rfl rfl ?_
          refine awl_val hτ rfl rfl rfl ?_
          refine awl_nil ?_
          refine aw_weak (weak_ofP [] (l := [(0, .d (.fl .f64 y_)), (19, .d (.bool true))]) (objs := []) rfl (by simp) rfl (by repeat' first | exact trivial | refine ⟨?_, ?_⟩) ⟨rfl, trivial, rfl, trivial, trivial⟩) ?_
          exact hk49 true h
        · have h := if_bf h hb50
          refine awl_val hτ rfl rfl rfl ?_
          refine awl_val hτ rfl rfl rfl ?_
          refine awl_val hτ rfl rfl rfl ?_
          refine awl_nil ?_
          refine aw_weak (weak_ofP [] (l := [(0, .d (.fl .f64 y_)), (19, .d (.bool (fcmp .leq .f64 y_ (14064741636278059008 : Nat))))]) (objs := []) rfl (by simp) rfl (by repeat' first | exact trivial | refine ⟨?_, ?_⟩) ⟨rfl, trivial, rfl, trivial, trivial⟩) ?_
          exact hk49 (fcmp .leq .f64 y_ (14064741636278059008 : Nat)) h
theorem spec_l01SineWide_ok (n : Nat) (y_ : Nat) {r : Nat} (h : m_spec_l01SineWide n y_ = some r) : ACall prog false 190 [.d (.fl .f64 y_)] [] (fun v o new => v = .d (.fl .f64 r) ∧ o = [] ∧ new = []) := spec_l01SineWide_ok_fr0 false n y_ h
theorem spec_l01SineWide_ok_fr (n : Nat) (y_ : Nat) {r : Nat} (h : m_spec_l01SineWide n y_ = some r) : ACall prog true 190 [.d (.fl .f64 y_)] [] (fun v o new => v = .d (.fl .f64 r) ∧ o = [] ∧ new = []) := spec_l01SineWide_ok_fr0 true n y_ h

def m_spec_l01Narrow (n : Nat) (x_ : Nat) : Option Nat :=
  (fconv .f64 .f32 x_).bind fun x2 =>
  some x2
theorem spec_l01Narrow_ok_fr0 (fr : Bool) (n : Nat) (x_ : Nat) {r : Nat} (h : m_spec_l01Narrow n x_ = some r) : ACall prog fr 182 [.d (.fl .f64 x_)] [] (fun v o new => v = .d (.fl .f32 r) ∧ o = [] ∧ new = []) := by
  refine acall_of_aw hτ func182 rfl (by simp) (by simp) ?_
  unfold m_spec_l01Narrow at h
  refine aw_seq ?_
  refine aw_region ?_
  refine awl_val hτ rfl rfl rfl ?_
  refine awl_nil ?_
  refine aw_seq ?_
  refine aw_region ?_
  refine awl_val hτ rfl rfl rfl ?_
  refine bnd_elim h fun x2 hx2 h => ?_
  refine awl_val hτ (v := .d (.fl .f32 x2)) rfl rfl (conv_val hx2) ?_
  refine awl_val hτ rfl rfl rfl ?_
  refine awl_nil ?_
  refine aw_weak (weak_ofP [] (l := [(2, .d (.fl .f32 x2))]) (objs := []) rfl (by simp) rfl (by repeat' first | exact trivial | refine ⟨?_, ?_⟩) ⟨rfl, trivial, trivial⟩) ?_
  refine aw_ret ?_
  have hr := Option.some.inj h
  subst hr
  exact ret_objs (.inr rfl) [] (objs' := []) (new := []) rfl (by simp) (by simp) rfl (by repeat' first | exact trivial | refine ⟨?_, ?_⟩) rfl rfl (by repeat' first | exact trivial | refine ⟨?_, ?_⟩) (fun _ => ⟨by simp [V.flat, V.flatA, V.flatC, D.flat], flat_nil⟩) ⟨rfl, rfl, rfl⟩
theorem spec_l01Narrow_ok (n : Nat) (x_ : Nat) {r : Nat} (h : m_spec_l01Narrow n x_ = some r) : ACall prog false 182 [.d (.fl .f64 x_)] [] (fun v o new => v = .d (.fl .f32 r) ∧ o = [] ∧ new = []) := spec_l01Narrow_ok_fr0 false n x_ h
theorem spec_l01Narrow_ok_fr (n : Nat) (x_ : Nat) {r : Nat} (h : m_spec_l01Narrow n x_ = some r) : ACall prog true 182 [.d (.fl .f64 x_)] [] (fun v o new => v = .d (.fl .f32 r) ∧ o = [] ∧ new = []) := spec_l01Narrow_ok_fr0 true n x_ h

def m_spec_l01Phasor_j3 (n : Nat) (v35 : Nat) (v36 : Int) : Option Cx :=
  (m_spec_l01SineWide n (farith .sub .f64 (4598175219545276416 : Nat) v35)).bind fun x37 =>
  (m_spec_l01SineWide n v35).bind fun x38 =>
  if v36 = (1 : Int) then
    (m_spec_l01Narrow n (farith .sub .f64 (0 : Nat) x38)).bind fun x46 =>
    (m_spec_l01Narrow n x37).bind fun x47 =>
    some (Cx.mk x46 x47)
  else
    if v36 = (2 : Int) then
      (m_spec_l01Narrow n (farith .sub .f64 (0 : Nat) x37)).bind fun x49 =>
      (m_spec_l01Narrow n (farith .sub .f64 (0 : Nat) x38)).bind fun x50 =>
      some (Cx.mk x49 x50)
    else
      if v36 = (3 : Int) then
        (m_spec_l01Narrow n x38).bind fun x52 =>
        (m_spec_l01Narrow n (farith .sub .f64 (0 : Nat) x37)).bind fun x53 =>
        some (Cx.mk x52 x53)
      else
        (m_spec_l01Narrow n x37).bind fun x54 =>
        (m_spec_l01Narrow n x38).bind fun x55 =>
        some (Cx.mk x54 x55)
def m_spec_l01Phasor_l4 (n : Nat) : Nat → Nat → Int → Option Cx
  | 0, _, _ => none
  | m61 + 1, v57, v58 =>
    if (fcmp .geq .f64 v57 (4598175219545276416 : Nat)) = true then
      (m_spec_l01Phasor_l4 n m61) (farith .sub .f64 v57 (4598175219545276416 : Nat)) (w64 (v58 + (1 : Int)))
    else
      m_spec_l01Phasor_j3 n v57 v58
def m_spec_l01Phasor_j2 (n : Nat) (v30 : Nat) : Option Cx :=
  m_spec_l01Phasor_l4 n n v30 (0 : Int)
def m_spec_l01Phasor_j1 (n : Nat) (turns_ : Nat) : Option Cx :=
  (f2i .f64 .i64 turns_).bind fun x28 =>
  if (fcmp .lss .f64 (farith .sub .f64 turns_ (FloatKind.nearest .f64 x28)) (0 : Nat)) = true then
    m_spec_l01Phasor_j2 n (farith .add .f64 (farith .sub .f64 turns_ (FloatKind.nearest .f64 x28)) (4607182418800017408 : Nat))
  else
    m_spec_l01Phasor_j2 n (farith .sub .f64 turns_ (FloatKind.nearest .f64 x28))
def m_spec_l01Phasor_j5 (n : Nat) (turns_ : Nat) (v69 : Bool) : Option Cx :=
  if v69 = true then
    some (Cx.mk (1065353216 : Nat) (0 : Nat))
  else
    m_spec_l01Phasor_j1 n turns_
def m_spec_l01Phasor (n : Nat) (turns_ : Nat) : Option Cx :=
  if (fcmp .neq .f64 (farith .sub .f64 turns_ turns_) (0 : Nat)) = true then
    (m_spec_l01From n (2143289344 : Int)).bind fun x24 =>
    (m_spec_l01From n (2143289344 : Int)).bind fun x25 =>
    some (Cx.mk x24 x25)
  else
    if (fcmp .geq .f64 turns_ (4841369599423283200 : Nat)) = true then
      m_spec_l01Phasor_j5 n turns_ true
    else
      m_spec_l01Phasor_j5 n turns_ (fcmp .leq .f64 turns_ (14064741636278059008 : Nat))
theorem spec_l01Phasor_ok_fr0 (fr : Bool) (n : Nat) (turns_ : Nat) {r : Cx} (h : m_spec_l01Phasor n turns_ = some r) : ACall prog fr 158 [.d (.fl .f64 turns_)] [] (fun v o new => v = .d (.cx .f32 r.re r.im) ∧ o = [] ∧ new = []) := by
  refine acall_of_aw hτ func158 rfl (by simp) (by simp) ?_
  unfold m_spec_l01Phasor at h
  refine aw_seq ?_
  refine aw_region ?_
  refine awl_val hτ rfl rfl rfl ?_
  refine awl_nil ?_
  refine aw_seq ?_
  refine aw_seq ?_
  refine aw_region ?_
  refine awl_val hτ rfl rfl rfl ?_
  refine awl_val hτ rfl rfl rfl ?_
  refine awl_val hτ rfl rfl rfl ?_
  refine awl_val hτ rfl rfl rfl ?_
  refine awl_nil ?_
  refine aw_cond rfl (fun hc23 => ?_) (fun hc23 => ?_)
  · have h := if_bt h hc23
    refine aw_seq ?_
    refine aw_region ?_
    refine bnd_elim h fun x24 hx24 h => ?_
    refine awl_callP hτ false [] rfl rfl rfl (enterOk func189 rfl rfl) rfl rfl (by simp) ⟨trivial, trivial⟩ (by repeat' first | exact trivial | refine ⟨?_, ?_⟩) (spec_l01From_ok n (2143289344 : Int) hx24) ?_
    rintro r0 o0 n0 ⟨rfl, rfl, rfl⟩ -
    refine bnd_elim h fun x25 hx25 h => ?_
    refine awl_callP hτ false [] rfl rfl rfl (enterOk func189 rfl rfl) rfl rfl (by simp) ⟨trivial, trivial⟩ (by repeat' first | exact trivial | refine ⟨?_, ?_⟩) (spec_l01From_ok n (2143289344 : Int) hx25) ?_
    rintro r0 o0 n0 ⟨rfl, rfl, rfl⟩ -
    refine awl_val hτ rfl rfl rfl ?_
    refine awl_val hτ rfl rfl rfl ?_
    refine awl_nil ?_
    refine aw_weak (weak_ofP [] (l := [(2, .d (.cx .f32 x24 x25))]) (objs := []) rfl (by simp) rfl (by repeat' first | exact trivial | refine ⟨?_, ?_⟩) ⟨rfl, trivial, trivial⟩) ?_
    refine aw_ret ?_
    have hr := Option.some.inj h
    subst hr
    exact ret_objs (.inr rfl) [] (objs' := []) (new := []) rfl (by simp) (by simp) rfl (by repeat' first | exact trivial | refine ⟨?_, ?_⟩) rfl rfl (by repeat' first | exact trivial | refine ⟨?_, ?_⟩) (fun _ => ⟨by simp [V.flat, V.flatA, V.flatC, D.flat], flat_nil⟩) ⟨rfl, rfl, rfl⟩
  · have h := if_bf h hc23
    refine aw_skip ?_
    refine aw_hk1 (ι := Unit) (fun _ => St.of [(0, .d (.fl .f64 turns_))] [] f158.ntmps 0) (fun _ => m_spec_l01Phasor_j1 n turns_ = some r) ?_ (fun hk66 => ?_)
    · rintro ⟨⟩ h
      replace h : m_spec_l01Phasor_j1 n turns_ = some r := h
      unfold m_spec_l01Phasor_j1 at h
      refine aw_seq ?_
      refine aw_region ?_
      refine awl_val hτ rfl rfl rfl ?_
      refine awl_val hτ rfl rfl rfl ?_
      refine bnd_elim h fun x28 hx28 h => ?_
      refine awl_x rfl rfl (x_f2i hτ rfl rfl rfl rfl rfl rfl hx28) ?_
      refine awl_val hτ rfl rfl rfl ?_
      refine awl_val hτ rfl rfl rfl ?_
      refine awl_val hτ rfl rfl rfl ?_
      refine awl_nil ?_
      refine aw_hk1 (ι := Nat) (fun v30 => St.of [(3, .d (.fl .f64 v30))] [] f158.ntmps 0) (fun v30 => m_spec_l01Phasor_j2 n v30 = some r) ?_ (fun hk64 => ?_)
      · rintro v30 h
        replace h : m_spec_l01Phasor_j2 n v30 = some r := h
        unfold m_spec_l01Phasor_j2 at h
        refine aw_seq ?_
        refine aw_region ?_
        refine awl_val hτ rfl rfl rfl ?_
        refine awl_nil ?_
        refine aw_hk1 (ι := Nat × Int) (fun (v35, v36) => St.of [(3, .d (.fl .f64 v35)), (4, .d (.int .i64 v36))] [] f158.ntmps 0) (fun (v35, v36) => m_spec_l01Phasor_j3 n v35 v36 = some r) ?_ (fun hk56 => ?_)
        · rintro ⟨v35, v36⟩ h
          replace h : m_spec_l01Phasor_j3 n v35 v36 = some r := h
          unfold m_spec_l01Phasor_j3 at h
          refine aw_seq ?_
          refine aw_region ?_
          refine awl_val hτ rfl rfl rfl ?_
          refine awl_val hτ rfl rfl rfl ?_
          refine bnd_elim h fun x37 hx37 h => ?_
          refine awl_callP hτ false [] rfl rfl rfl (enterOk func190 rfl rfl) rfl rfl (by simp) ⟨trivial, trivial⟩ (by repeat' first | exact trivial | refine ⟨?_, ?_⟩) (spec_l01SineWide_ok n (farith .sub .f64 (4598175219545276416 : Nat) v35) hx37) ?_
          rintro r0 o0 n0 ⟨rfl, rfl, rfl⟩ -
          refine awl_val hτ rfl rfl rfl ?_
          refine awl_nil ?_
          refine aw_seq ?_
          refine aw_region ?_
          refine awl_val hτ rfl rfl rfl ?_
          refine bnd_elim h fun x38 hx38 h => ?_
          refine awl_callP hτ false [] rfl rfl rfl (enterOk func190 rfl rfl) rfl rfl (by simp) ⟨trivial, trivial⟩ (by repeat' first | exact trivial | refine ⟨?_, ?_⟩) (spec_l01SineWide_ok n v35 hx38) ?_
          rintro r0 o0 n0 ⟨rfl, rfl, rfl⟩ -
          refine awl_val hτ rfl rfl rfl ?_
          refine awl_nil ?_
          refine aw_seq ?_
          refine aw_seq ?_
          refine aw_weak (weak_ofP [] (l := [(4, .d (.int .i64 v36)), (5, .d (.fl .f64 x37)), (6, .d (.fl .f64 x38))]) (objs := []) rfl (by simp) rfl (by repeat' first | exact trivial | refine ⟨?_, ?_⟩) ⟨rfl, trivial, rfl, trivial, rfl, trivial, trivial⟩) ?_
          refine aw_region ?_
          refine awl_val hτ rfl rfl rfl ?_
          refine awl_nil ?_
          refine aw_block ?_
          refine aw_seq ?_
          refine aw_region ?_
          refine awl_val hτ (v := .d (.bool (decide (v36 = (1 : Int))))) rfl rfl (or_ieq _ _) ?_
          refine awl_val hτ rfl rfl rfl ?_
          refine awl_nil ?_
          refine aw_cond rfl (fun hc45 => ?_) (fun hc45 => ?_)
          · have h := if_t h hc45
            refine aw_seq ?_
            refine aw_region ?_
            refine awl_val hτ rfl rfl rfl ?_
            refine awl_val hτ rfl rfl rfl ?_
            refine bnd_elim h fun x46 hx46 h => ?_
            refine awl_callP hτ false [] rfl rfl rfl (enterOk func182 rfl rfl) rfl rfl (by simp) ⟨trivial, trivial⟩ (by repeat' first | exact trivial | refine ⟨?_, ?_⟩) (spec_l01Narrow_ok n (farith .sub .f64 (0 : Nat) x38) hx46) ?_
            rintro r0 o0 n0 ⟨rfl, rfl, rfl⟩ -
            refine awl_val hτ rfl rfl rfl ?_
            refine bnd_elim h fun x47 hx47 h => ?_
            refine awl_callP hτ false [] rfl rfl rfl (enterOk func182 rfl rfl) rfl rfl (by simp) ⟨trivial, trivial⟩ (by repeat' first | exact trivial | refine ⟨?_, ?_⟩) (spec_l01Narrow_ok n x37 hx47) ?_
            rintro r0 o0 n0 ⟨rfl, rfl, rfl⟩ -
            refine awl_val hτ rfl rfl rfl ?_
            refine awl_val hτ rfl rfl rfl ?_
            refine awl_nil ?_
            refine aw_weak (weak_ofP [] (l := [(2, .d (.cx .f32 x46 x47))]) (objs := []) rfl (by simp) rfl (by repeat' first | exact trivial | refine ⟨?_, ?_⟩) ⟨rfl, trivial, trivial⟩) ?_
            refine aw_ret ?_
            have hr := Option.some.inj h
            subst hr
            exact ret_objs (.inr rfl) [] (objs' := []) (new := []) rfl (by simp) (by simp) rfl (by repeat' first | exact trivial | refine ⟨?_, ?_⟩) rfl rfl (by repeat' first | exact trivial | refine ⟨?_, ?_⟩) (fun _ => ⟨by simp [V.flat, V.flatA, V.flatC, D.flat], flat_nil⟩) ⟨rfl, rfl, rfl⟩
          · have h := if_f h hc45
            refine aw_seq ?_
            refine aw_region ?_
            refine awl_val hτ (v := .d (.bool (decide (v36 = (2 : Int))))) rfl rfl (or_ieq _ _) ?_
            refine awl_val hτ rfl rfl rfl ?_
            refine awl_nil ?_
            refine aw_cond rfl (fun hc48 => ?_) (fun hc48 => ?_)
            · have h := if_t h hc48
              refine aw_seq ?_
              refine aw_region ?_
              refine awl_val hτ rfl rfl rfl ?_
              refine awl_val hτ rfl rfl rfl ?_
              refine bnd_elim h fun x49 hx49 h => ?_
              refine awl_callP hτ false [] rfl rfl rfl (enterOk func182 rfl rfl) rfl rfl (by simp) ⟨trivial, trivial⟩ (by repeat' first | exact trivial | refine ⟨?_, ?_⟩) (spec_l01Narrow_ok n (farith .sub .f64 (0 : Nat) x37) hx49) ?_
              rintro r0 o0 n0 ⟨rfl, rfl, rfl⟩ -
              refine awl_val hτ rfl rfl rfl ?_
              refine awl_val hτ rfl rfl rfl ?_
              refine bnd_elim h fun x50 hx50 h => ?_
              refine awl_callP hτ false [] rfl rfl rfl (enterOk func182 rfl rfl) rfl rfl (by simp) ⟨trivial, trivial⟩ (by repeat' first | exact trivial | refine ⟨?_, ?_⟩) (spec_l01Narrow_ok n (farith .sub .f64 (0 : Nat) x38) hx50) ?_
              rintro r0 o0 n0 ⟨rfl, rfl, rfl⟩ -
              refine awl_val hτ rfl rfl rfl ?_
              refine awl_val hτ rfl rfl rfl ?_
              refine awl_nil ?_
              refine aw_weak (weak_ofP [] (l := [(2, .d (.cx .f32 x49 x50))]) (objs := []) rfl (by simp) rfl (by repeat' first | exact trivial | refine ⟨?_, ?_⟩) ⟨rfl, trivial, trivial⟩) ?_
              refine aw_ret ?_
              have hr := Option.some.inj h
              subst hr
              exact ret_objs (.inr rfl) [] (objs' := []) (new := []) rfl (by simp) (by simp) rfl (by repeat' first | exact trivial | refine ⟨?_, ?_⟩) rfl rfl (by repeat' first | exact trivial | refine ⟨?_, ?_⟩) (fun _ => ⟨by simp [V.flat, V.flatA, V.flatC, D.flat], flat_nil⟩) ⟨rfl, rfl, rfl⟩
            · have h := if_f h hc48
              refine aw_seq ?_
              refine aw_region ?_
              refine awl_val hτ (v := .d (.bool (decide (v36 = (3 : Int))))) rfl rfl (or_ieq _ _) ?_
              refine awl_val hτ rfl rfl rfl ?_
              refine awl_nil ?_
              refine aw_weak (weak_ofP [] (l := [(5, .d (.fl .f64 x37)), (6, .d (.fl .f64 x38)), (58, .d (.bool (decide (v36 = (3 : Int)))))]) (objs := []) rfl (by simp) rfl (by repeat' first | exact trivial | refine ⟨?_, ?_⟩) ⟨rfl, trivial, rfl, trivial, rfl, trivial, trivial⟩) ?_
              refine aw_cond rfl (fun hc51 => ?_) (fun hc51 => ?_)
              · have h := if_t h hc51
                refine aw_seq ?_
                refine aw_region ?_
                refine awl_val hτ rfl rfl rfl ?_
                refine bnd_elim h fun x52 hx52 h => ?_
                refine awl_callP hτ false [] rfl rfl rfl (enterOk func182 rfl rfl) rfl rfl (by simp) ⟨trivial, trivial⟩ (by repeat' first | exact trivial | refine ⟨?_, ?_⟩) (spec_l01Narrow_ok n x38 hx52) ?_
                rintro r0 o0 n0 ⟨rfl, rfl, rfl⟩ -
                refine awl_val hτ rfl rfl rfl ?_
                refine awl_val hτ rfl rfl rfl ?_
                refine bnd_elim h fun x53 hx53 h => ?_
                refine awl_callP hτ false [] rfl rfl rfl (enterOk func182 rfl rfl) rfl rfl (by simp) ⟨trivial, trivial⟩ (by repeat' first | exact trivial | refine ⟨?_, ?_⟩) (spec_l01Narrow_ok n (farith .sub .f64 (0 : Nat) x37) hx53) ?_
                rintro r0 o0 n0 ⟨rfl, rfl, rfl⟩ -
                refine awl_val hτ rfl rfl rfl ?_
                refine awl_val hτ rfl rfl rfl ?_
                refine awl_nil ?_
                refine aw_weak (weak_ofP [] (l := [(2, .d (.cx .f32 x52 x53))]) (objs := []) rfl (by simp) rfl (by repeat' first | exact trivial | refine ⟨?_, ?_⟩) ⟨rfl, trivial, trivial⟩) ?_
                refine aw_ret ?_
                have hr := Option.some.inj h
                subst hr
                exact ret_objs (.inr rfl) [] (objs' := []) (new := []) rfl (by simp) (by simp) rfl (by repeat' first | exact trivial | refine ⟨?_, ?_⟩) rfl rfl (by repeat' first | exact trivial | refine ⟨?_, ?_⟩) (fun _ => ⟨by simp [V.flat, V.flatA, V.flatC, D.flat], flat_nil⟩) ⟨rfl, rfl, rfl⟩
              · have h := if_f h hc51
                refine aw_skip ?_
                refine aw_seq ?_
                refine aw_region ?_
                refine awl_val hτ rfl rfl rfl ?_
                refine bnd_elim h fun x54 hx54 h => ?_
                refine awl_callP hτ false [] rfl rfl rfl (enterOk func182 rfl rfl) rfl rfl (by simp) ⟨trivial, trivial⟩ (by repeat' first | exact trivial | refine ⟨?_, ?_⟩) (spec_l01Narrow_ok n x37 hx54) ?_
                rintro r0 o0 n0 ⟨rfl, rfl, rfl⟩ -
                refine awl_val hτ rfl rfl rfl ?_
                refine bnd_elim h fun x55 hx55 h => ?_
                refine awl_callP hτ false [] rfl rfl rfl (enterOk func182 rfl rfl) rfl rfl (by simp) ⟨trivial, trivial⟩ (by repeat' first | exact trivial | refine ⟨?_, ?_⟩) (spec_l01Narrow_ok n x38 hx55) ?_
                rintro r0 o0 n0 ⟨rfl, rfl, rfl⟩ -
                refine awl_val hτ rfl rfl rfl ?_
                refine awl_val hτ rfl rfl rfl ?_
                refine awl_nil ?_
                refine aw_weak (weak_ofP [] (l := [(2, .d (.cx .f32 x54 x55))]) (objs := []) rfl (by simp) rfl (by repeat' first | exact trivial | refine ⟨?_, ?_⟩) ⟨rfl, trivial, trivial⟩) ?_
                refine aw_ret ?_
                have hr := Option.some.inj h
                subst hr
                exact ret_objs (.inr rfl) [] (objs' := []) (new := []) rfl (by simp) (by simp) rfl (by repeat' first | exact trivial | refine ⟨?_, ?_⟩) rfl rfl (by repeat' first | exact trivial | refine ⟨?_, ?_⟩) (fun _ => ⟨by simp [V.flat, V.flatA, V.flatC, D.flat], flat_nil⟩) ⟨rfl, rfl, rfl⟩
        · refine aw_seq ?_
          refine aw_block ?_
          refine aw_loop (ι := Nat × Nat × Int) (fun (m61, v57, v58) => St.of [(3, .d (.fl .f64 v57)), (4, .d (.int .i64 v58))] [] f158.ntmps 0) (fun (m61, v57, v58) => m_spec_l01Phasor_l4 n m61 v57 v58 = some r) (fun x => x.1) (n, v30, (0 : Int)) h (weak_ofP [] (l := [(3, .d (.fl .f64 v30)), (4, .d (.int .i64 (0 : Int)))]) (objs := []) rfl (by simp) rfl (by repeat' first | exact trivial | refine ⟨?_, ?_⟩) ⟨rfl, trivial, rfl, trivial, trivial⟩) ?_
          rintro ⟨m61, v57, v58⟩ h
          replace h : m_spec_l01Phasor_l4 n m61 v57 v58 = some r := h
          rcases m61 with _ | m61
          · rw [m_spec_l01Phasor_l4] at h; cases h
          rw [m_spec_l01Phasor_l4] at h
          refine aw_seq ?_
          refine aw_seq ?_
          refine aw_region ?_
          refine awl_val hτ rfl rfl rfl ?_
          refine awl_val hτ rfl rfl rfl ?_
          refine awl_nil ?_
          refine aw_cond rfl (fun hc63 => ?_) (fun hc63 => ?_)
          · have h := if_bt h hc63
            refine aw_skip ?_
            refine aw_block ?_
            refine aw_seq ?_
            refine aw_region ?_
            refine awl_val hτ rfl rfl rfl ?_
            refine awl_val hτ rfl rfl rfl ?_
            refine awl_val hτ rfl rfl rfl ?_
            refine awl_nil ?_
            refine aw_region ?_
            refine awl_val hτ rfl rfl rfl ?_
            refine awl_val hτ rfl rfl rfl ?_
            refine awl_val hτ rfl rfl rfl ?_
            refine awl_nil ?_
            exact ⟨(m61, (farith .sub .f64 v57 (4598175219545276416 : Nat)), (w64 (v58 + (1 : Int)))), h, Nat.lt_succ_self m61, (weak_ofP [] (l := [(3, .d (.fl .f64 (farith .sub .f64 v57 (4598175219545276416 : Nat)))), (4, .d (.int .i64 (w64 (v58 + (1 : Int)))))]) (objs := []) rfl (by simp) rfl (by repeat' first | exact trivial | refine ⟨?_, ?_⟩) ⟨rfl, trivial, rfl, trivial, trivial⟩)⟩
          · have h := if_bf h hc63
            refine aw_exit ?_
            refine aw_weak (weak_ofP [] (l := [(3, .d (.fl .f64 v57)), (4, .d (.int .i64 v58))]) (objs := []) rfl (by simp) rfl (by repeat' first | exact trivial | refine ⟨?_, ?_⟩) ⟨rfl, trivial, rfl, trivial, trivial⟩) ?_
            exact hk56 (v57, v58) h
      · refine aw_seq ?_
        refine aw_seq ?_
        refine aw_weak (weak_ofP [] (l := [(3, .d (.fl .f64 (farith .sub .f64 turns_ (FloatKind.nearest .f64 x28))))]) (objs := []) rfl (by simp) rfl (by repeat' first | exact trivial | refine ⟨?_, ?_⟩) ⟨rfl, trivial, trivial⟩) ?_
        refine aw_region ?_
        refine awl_val hτ rfl rfl rfl ?_
        refine awl_val hτ rfl rfl rfl ?_
        refine awl_nil ?_
        refine aw_cond rfl (fun hc65 => ?_) (fun hc65 => ?_)
        · have h := if_bt h hc65
          refine aw_region ?_
          refine awl_val hτ rfl rfl rfl ?_
          refine awl_val hτ rfl rfl rfl ?_
          refine awl_val hτ rfl rfl rfl ?_
          refine awl_nil ?_
          refine aw_weak (weak_ofP [] (l := [(3, .d (.fl .f64 (farith .add .f64 (farith .sub .f64 turns_ (FloatKind.nearest .f64 x28)) (4607182418800017408 : Nat))))]) (objs := []) rfl (by simp) rfl (by repeat' first | exact trivial | refine ⟨?_, ?_⟩) ⟨rfl, trivial, trivial⟩) ?_
          exact hk64 (farith .add .f64 (farith .sub .f64 turns_ (FloatKind.nearest .f64 x28)) (4607182418800017408 : Nat)) h
        · have h := if_bf h hc65
          refine aw_skip ?_
          refine aw_weak (weak_ofP [] (l := [(3, .d (.fl .f64 (farith .sub .f64 turns_ (FloatKind.nearest .f64 x28))))]) (objs := []) rfl (by simp) rfl (by repeat' first | exact trivial | refine ⟨?_, ?_⟩) ⟨rfl, trivial, trivial⟩) ?_
          exact hk64 (farith .sub .f64 turns_ (FloatKind.nearest .f64 x28)) h
    · refine aw_seq ?_
      refine aw_hk1 (ι := Bool) (fun v69 => St.of [(0, .d (.fl .f64 turns_)), (19, .d (.bool v69))] [] f158.ntmps 0) (fun v69 => m_spec_l01Phasor_j5 n turns_ v69 = some r) ?_ (fun hk71 => ?_)
      · rintro v69 h
        replace h : m_spec_l01Phasor_j5 n turns_ v69 = some r := h
        unfold m_spec_l01Phasor_j5 at h
        refine aw_cond rfl (fun hc70 => ?_) (fun hc70 => ?_)
        · have h := if_bt h hc70
          refine aw_seq ?_
          refine aw_region ?_
          refine awl_val hτ rfl rfl rfl ?_
          refine awl_nil ?_
          refine aw_weak (weak_ofP [] (l := [(2, .d (.cx .f32 (1065353216 : Nat) (0 : Nat)))]) (objs := []) rfl (by simp) rfl (by repeat' first | exact trivial | refine ⟨?_, ?_⟩) ⟨rfl, trivial, trivial⟩) ?_
          refine aw_ret ?_
          have hr := Option.some.inj h
          subst hr
          exact ret_objs (.inr rfl) [] (objs' := []) (new := []) rfl (by simp) (by simp) rfl (by repeat' first | exact trivial | refine ⟨?_, ?_⟩) rfl rfl (by repeat' first | exact trivial | refine ⟨?_, ?_⟩) (fun _ => ⟨by simp [V.flat, V.flatA, V.flatC, D.flat], flat_nil⟩) ⟨rfl, rfl, rfl⟩
        · have h := if_bf h hc70
          refine aw_skip ?_
          refine aw_weak (weak_ofP [] (l := [(0, .d (.fl .f64 turns_))]) (objs := []) rfl (by simp) rfl (by repeat' first | exact trivial | refine ⟨?_, ?_⟩) ⟨rfl, trivial, trivial⟩) ?_
          exact hk66 () h
      · refine aw_seq ?_
        refine aw_region ?_
        refine awl_val hτ rfl rfl rfl ?_
        refine awl_val hτ rfl rfl rfl ?_
        refine awl_val hτ rfl rfl rfl ?_
        refine awl_split 16 rfl (fun hb72 => ?_) (fun hb72 => ?_)
        · have h := if_bt h hb72
          refine awl_skip rfl rfl ?_
          refine awl_skip rfl rfl ?_
          refine awl_val hτ rfl rfl rfl ?_
          refine awl_nil ?_
          refine aw_weak (weak_ofP [] (l := [(0, .d (.fl .f64 turns_)), (19, .d (.bool true))]) (objs := []) rfl (by simp) rfl (by repeat' first | exact trivial | refine ⟨?_, ?_⟩) ⟨rfl, trivial, rfl, trivial, trivial⟩) ?_
          exact hk71 true h
        · have h := if_bf h hb72
          refine awl_val hτ rfl rfl rfl ?_
          refine awl_val hτ rfl rfl rfl ?_
          refine awl_val hτ rfl rfl rfl ?_
          refine awl_nil ?_
          refine aw_weak (weak_ofP [] (l := [(0, .d (.fl .f64 turns_)), (19, .d (.bool (fcmp .leq .f64 turns_ (14064741636278059008 : Nat))))]) (objs := []) rfl (by simp) rfl (by repeat' first | exact trivial | refine ⟨?_, ?_⟩) ⟨rfl, trivial, rfl, trivial, trivial⟩) ?_
          exact hk71 (fcmp .leq .f64 turns_ (14064741636278059008 : Nat)) h
theorem spec_l01Phasor_ok (n : Nat) (turns_ : Nat) {r : Cx} (h : m_spec_l01Phasor n turns_ = some r) : ACall prog false 158 [.d (.fl .f64 turns_)] [] (fun v o new => v = .d (.cx .f32 r.re r.im) ∧ o = [] ∧ new = []) := spec_l01Phasor_ok_fr0 false n turns_ h
theorem spec_l01Phasor_ok_fr (n : Nat) (turns_ : Nat) {r : Cx} (h : m_spec_l01Phasor n turns_ = some r) : ACall prog true 158 [.d (.fl .f64 turns_)] [] (fun v o new => v = .d (.cx .f32 r.re r.im) ∧ o = [] ∧ new = []) := spec_l01Phasor_ok_fr0 true n turns_ h

def m_spec_l01Wide (n : Nat) (x_ : Cx) : Option Cx :=
  (fconv .f32 .f64 x_.re).bind fun x3 =>
  (fconv .f32 .f64 x_.im).bind fun x4 =>
  some (Cx.mk x3 x4)
theorem spec_l01Wide_ok_fr0 (fr : Bool) (n : Nat) (x_ : Cx) {r : Cx} (h : m_spec_l01Wide n x_ = some r) : ACall prog fr 188 [.d (.cx .f32 x_.re x_.im)] [] (fun v o new => v = .d (.cx .f64 r.re r.im) ∧ o = [] ∧ new = []) := by
  refine acall_of_aw hτ func188 rfl (by simp) (by simp) ?_
  unfold m_spec_l01Wide at h
  refine aw_seq ?_
  refine aw_region ?_
  refine awl_val hτ rfl rfl rfl ?_
  refine awl_nil ?_
  refine aw_seq ?_
  refine aw_region ?_
  refine awl_val hτ rfl rfl rfl ?_
  refine awl_val hτ rfl rfl rfl ?_
  refine bnd_elim h fun x3 hx3 h => ?_
  refine awl_val hτ (v := .d (.fl .f64 x3)) rfl rfl (conv_val hx3) ?_
  refine awl_val hτ rfl rfl rfl ?_
  refine awl_val hτ rfl rfl rfl ?_
  refine bnd_elim h fun x4 hx4 h => ?_
  refine awl_val hτ (v := .d (.fl .f64 x4)) rfl rfl (conv_val hx4) ?_
  refine awl_val hτ rfl rfl rfl ?_
  refine awl_val hτ rfl rfl rfl ?_
  refine awl_nil ?_
  refine aw_weak (weak_ofP [] (l := [(2, .d (.cx .f64 x3 x4))]) (objs := []) rfl (by simp) rfl (by repeat' first | exact trivial | refine ⟨?_, ?_⟩) ⟨rfl, trivial, trivial⟩) ?_
  refine aw_ret ?_
  have hr := Option.some.inj h
  subst hr
  exact ret_objs (.inr rfl) [] (objs' := []) (new := []) rfl (by simp) (by simp) rfl (by repeat' first | exact trivial | refine ⟨?_, ?_⟩) rfl rfl (by repeat' first | exact trivial | refine ⟨?_, ?_⟩) (fun _ => ⟨by simp [V.flat, V.flatA, V.flatC, D.flat], flat_nil⟩) ⟨rfl, rfl, rfl⟩
theorem spec_l01Wide_ok (n : Nat) (x_ : Cx) {r : Cx} (h : m_spec_l01Wide n x_ = some r) : ACall prog false 188 [.d (.cx .f32 x_.re x_.im)] [] (fun v o new => v = .d (.cx .f64 r.re r.im) ∧ o = [] ∧ new = []) := spec_l01Wide_ok_fr0 false n x_ h
theorem spec_l01Wide_ok_fr (n : Nat) (x_ : Cx) {r : Cx} (h : m_spec_l01Wide n x_ = some r) : ACall prog true 188 [.d (.cx .f32 x_.re x_.im)] [] (fun v o new => v = .d (.cx .f64 r.re r.im) ∧ o = [] ∧ new = []) := spec_l01Wide_ok_fr0 true n x_ h

def m_spec_l01WideMul (n : Nat) (x_ : Cx) (y_ : Cx) : Option Cx :=
  some (Cx.mk (farith .sub .f64 (farith .mul .f64 x_.re y_.re) (farith .mul .f64 x_.im y_.im)) (farith .add .f64 (farith .mul .f64 x_.re y_.im) (farith .mul .f64 x_.im y_.re)))
theorem spec_l01WideMul_ok_fr0 (fr : Bool) (n : Nat) (x_ : Cx) (y_ : Cx) {r : Cx} (h : m_spec_l01WideMul n x_ y_ = some r) : ACall prog fr 187 [.d (.cx .f64 x_.re x_.im), .d (.cx .f64 y_.re y_.im)] [] (fun v o new => v = .d (.cx .f64 r.re r.im) ∧ o = [] ∧ new = []) := by
  refine acall_of_aw hτ func187 rfl (by simp) (by simp) ?_
  unfold m_spec_l01WideMul at h
  refine aw_seq ?_
  refine aw_region ?_
  refine awl_val hτ rfl rfl rfl ?_
  refine awl_nil ?_
  refine aw_seq ?_
  refine aw_region ?_
  refine awl_val hτ rfl rfl rfl ?_
  refine awl_val hτ rfl rfl rfl ?_
  refine awl_val hτ rfl rfl rfl ?_
  refine awl_val hτ rfl rfl rfl ?_
  refine awl_val hτ rfl rfl rfl ?_
  refine awl_val hτ rfl rfl rfl ?_
  refine awl_val hτ rfl rfl rfl ?_
  refine awl_val hτ rfl rfl rfl ?_
  refine awl_val hτ rfl rfl rfl ?_
  refine awl_val hτ rfl rfl rfl ?_
  refine awl_val hτ rfl rfl rfl ?_
  refine awl_val hτ rfl rfl rfl ?_
  refine awl_nil ?_
  refine aw_seq ?_
  refine aw_weak (weak_ofP [] (l := [(0, .d (.cx .f64 x_.re x_.im)), (1, .d (.cx .f64 y_.re y_.im)), (5, .d (.fl .f64 (farith .sub .f64 (farith .mul .f64 x_.re y_.re) (farith .mul .f64 x_.im y_.im))))]) (objs := []) rfl (by simp) rfl (by repeat' first | exact trivial | refine ⟨?_, ?_⟩) ⟨rfl, trivial, rfl, trivial, rfl, trivial, trivial⟩) ?_
  refine aw_region ?_
  refine awl_val hτ rfl rfl rfl ?_
  refine awl_val hτ rfl rfl rfl ?_
  refine awl_val hτ rfl rfl rfl ?_
  refine awl_val hτ rfl rfl rfl ?_
  refine awl_val hτ rfl rfl rfl ?_
  refine awl_val hτ rfl rfl rfl ?_
  refine awl_val hτ rfl rfl rfl ?_
  refine awl_val hτ rfl rfl rfl ?_
  refine awl_val hτ rfl rfl rfl ?_
  refine awl_val hτ rfl rfl rfl ?_
  refine awl_val hτ rfl rfl rfl ?_
  refine awl_val hτ rfl rfl rfl ?_
  refine awl_nil ?_
  refine aw_seq ?_
  refine aw_weak (weak_ofP [] (l := [(5, .d (.fl .f64 (farith .sub .f64 (farith .mul .f64 x_.re y_.re) (farith .mul .f64 x_.im y_.im)))), (6, .d (.fl .f64 (farith .add .f64 (farith .mul .f64 x_.re y_.im) (farith .mul .f64 x_.im y_.re))))]) (objs := []) rfl (by simp) rfl (by repeat' first | exact trivial | refine ⟨?_, ?_⟩) ⟨rfl, trivial, rfl, trivial, trivial⟩) ?_
  refine aw_region ?_
  refine awl_val hτ rfl rfl rfl ?_
  refine awl_val hτ rfl rfl rfl ?_
  refine awl_val hτ rfl rfl rfl ?_
  refine awl_val hτ rfl rfl rfl ?_
  refine awl_nil ?_
  refine aw_weak (weak_ofP [] (l := [(4, .d (.cx .f64 (farith .sub .f64 (farith .mul .f64 x_.re y_.re) (farith .mul .f64 x_.im y_.im)) (farith .add .f64 (farith .mul .f64 x_.re y_.im) (farith .mul .f64 x_.im y_.re))))]) (objs := []) rfl (by simp) rfl (by repeat' first | exact trivial | refine ⟨?_, ?_⟩) ⟨rfl, trivial, trivial⟩) ?_
  refine aw_ret ?_
  have hr := Option.some.inj h
  subst hr
  exact ret_objs (.inr rfl) [] (objs' := []) (new := []) rfl (by simp) (by simp) rfl (by repeat' first | exact trivial | refine ⟨?_, ?_⟩) rfl rfl (by repeat' first | exact trivial | refine ⟨?_, ?_⟩) (fun _ => ⟨by simp [V.flat, V.flatA, V.flatC, D.flat], flat_nil⟩) ⟨rfl, rfl, rfl⟩
theorem spec_l01WideMul_ok (n : Nat) (x_ : Cx) (y_ : Cx) {r : Cx} (h : m_spec_l01WideMul n x_ y_ = some r) : ACall prog false 187 [.d (.cx .f64 x_.re x_.im), .d (.cx .f64 y_.re y_.im)] [] (fun v o new => v = .d (.cx .f64 r.re r.im) ∧ o = [] ∧ new = []) := spec_l01WideMul_ok_fr0 false n x_ y_ h
theorem spec_l01WideMul_ok_fr (n : Nat) (x_ : Cx) (y_ : Cx) {r : Cx} (h : m_spec_l01WideMul n x_ y_ = some r) : ACall prog true 187 [.d (.cx .f64 x_.re x_.im), .d (.cx .f64 y_.re y_.im)] [] (fun v o new => v = .d (.cx .f64 r.re r.im) ∧ o = [] ∧ new = []) := spec_l01WideMul_ok_fr0 true n x_ y_ h

def m_spec_l01CNarrow (n : Nat) (x_ : Cx) : Option Cx :=
  (m_spec_l01Narrow n x_.re).bind fun x3 =>
  (m_spec_l01Narrow n x_.im).bind fun x4 =>
  some (Cx.mk x3 x4)
theorem spec_l01CNarrow_ok_fr0 (fr : Bool) (n : Nat) (x_ : Cx) {r : Cx} (h : m_spec_l01CNarrow n x_ = some r) : ACall prog fr 186 [.d (.cx .f64 x_.re x_.im)] [] (fun v o new => v = .d (.cx .f32 r.re r.im) ∧ o = [] ∧ new = []) := by
  refine acall_of_aw hτ func186 rfl (by simp) (by simp) ?_
  unfold m_spec_l01CNarrow at h
  refine aw_seq ?_
  refine aw_region ?_
  refine awl_val hτ rfl rfl rfl ?_
  refine awl_nil ?_
  refine aw_seq ?_
  refine aw_region ?_
  refine awl_val hτ rfl rfl rfl ?_
  refine awl_val hτ rfl rfl rfl ?_
  refine bnd_elim h fun x3 hx3 h => ?_
  refine awl_callP hτ false [] rfl rfl rfl (enterOk func182 rfl rfl) rfl rfl (by simp) ⟨trivial, trivial⟩ (by repeat' first | exact trivial | refine ⟨?_, ?_⟩) (spec_l01Narrow_ok n x_.re hx3) ?_
  rintro r0 o0 n0 ⟨rfl, rfl, rfl⟩ -
  refine awl_val hτ rfl rfl rfl ?_
  refine awl_val hτ rfl rfl rfl ?_
  refine bnd_elim h fun x4 hx4 h => ?_
  refine awl_callP hτ false [] rfl rfl rfl (enterOk func182 rfl rfl) rfl rfl (by simp) ⟨trivial, trivial⟩ (by repeat' first | exact trivial | refine ⟨?_, ?_⟩) (spec_l01Narrow_ok n x_.im hx4) ?_
  rintro r0 o0 n0 ⟨rfl, rfl, rfl⟩ -
  refine awl_val hτ rfl rfl rfl ?_
  refine awl_val hτ rfl rfl rfl ?_
  refine awl_nil ?_
  refine aw_weak (weak_ofP [] (l := [(2, .d (.cx .f32 x3 x4))]) (objs := []) rfl (by simp) rfl (by repeat' first | exact trivial | refine ⟨?_, ?_⟩) ⟨rfl, trivial, trivial⟩) ?_
  refine aw_ret ?_
  have hr := Option.some.inj h
  subst hr
  exact ret_objs (.inr rfl) [] (objs' := []) (new := []) rfl (by simp) (by simp) rfl (by repeat' first | exact trivial | refine ⟨?_, ?_⟩) rfl rfl (by repeat' first | exact trivial | refine ⟨?_, ?_⟩) (fun _ => ⟨by simp [V.flat, V.flatA, V.flatC, D.flat], flat_nil⟩) ⟨rfl, rfl, rfl⟩
theorem spec_l01CNarrow_ok (n : Nat) (x_ : Cx) {r : Cx} (h : m_spec_l01CNarrow n x_ = some r) : ACall prog false 186 [.d (.cx .f64 x_.re x_.im)] [] (fun v o new => v = .d (.cx .f32 r.re r.im) ∧ o = [] ∧ new = []) := spec_l01CNarrow_ok_fr0 false n x_ h
theorem spec_l01CNarrow_ok_fr (n : Nat) (x_ : Cx) {r : Cx} (h : m_spec_l01CNarrow n x_ = some r) : ACall prog true 186 [.d (.cx .f64 x_.re x_.im)] [] (fun v o new => v = .d (.cx .f32 r.re r.im) ∧ o = [] ∧ new = []) := spec_l01CNarrow_ok_fr0 true n x_ h

def m_spec_l01Mul (n : Nat) (x_ : Cx) (y_ : Cx) : Option Cx :=
  (m_spec_l01Wide n x_).bind fun x5 =>
  (m_spec_l01Wide n y_).bind fun x6 =>
  (m_spec_l01WideMul n x5 x6).bind fun x7 =>
  (m_spec_l01CNarrow n x7).bind fun x8 =>
  some x8
theorem spec_l01Mul_ok_fr0 (fr : Bool) (n : Nat) (x_ : Cx) (y_ : Cx) {r : Cx} (h : m_spec_l01Mul n x_ y_ = some r) : ACall prog fr 157 [.d (.cx .f32 x_.re x_.im), .d (.cx .f32 y_.re y_.im)] [] (fun v o new => v = .d (.cx .f32 r.re r.im) ∧ o = [] ∧ new = []) := by
  refine acall_of_aw hτ func157 rfl (by simp) (by simp) ?_
  unfold m_spec_l01Mul at h
  refine aw_seq ?_
  refine aw_region ?_
  refine awl_val hτ rfl rfl rfl ?_
  refine awl_nil ?_
  refine aw_seq ?_
  refine aw_region ?_
  refine awl_val hτ rfl rfl rfl ?_
  refine bnd_elim h fun x5 hx5 h => ?_
  refine awl_callP hτ false [] rfl rfl rfl (enterOk func188 rfl rfl) rfl rfl (by simp) ⟨trivial, trivial⟩ (by repeat' first | exact trivial | refine ⟨?_, ?_⟩) (spec_l01Wide_ok n x_ hx5) ?_
  rintro r0 o0 n0 ⟨rfl, rfl, rfl⟩ -
  refine awl_val hτ rfl rfl rfl ?_
  refine bnd_elim h fun x6 hx6 h => ?_
  refine awl_callP hτ false [] rfl rfl rfl (enterOk func188 rfl rfl) rfl rfl (by simp) ⟨trivial, trivial⟩ (by repeat' first | exact trivial | refine ⟨?_, ?_⟩) (spec_l01Wide_ok n y_ hx6) ?_
  rintro r0 o0 n0 ⟨rfl, rfl, rfl⟩ -
  refine bnd_elim h fun x7 hx7 h => ?_
  refine awl_callP hτ false [] rfl rfl rfl (enterOk func187 rfl rfl) rfl rfl (by simp) ⟨trivial, trivial, trivial⟩ (by repeat' first | exact trivial | refine ⟨?_, ?_⟩) (spec_l01WideMul_ok n x5 x6 hx7) ?_
  rintro r0 o0 n0 ⟨rfl, rfl, rfl⟩ -
  refine bnd_elim h fun x8 hx8 h => ?_
  refine awl_callP hτ false [] rfl rfl rfl (enterOk func186 rfl rfl) rfl rfl (by simp) ⟨trivial, trivial⟩ (by repeat' first | exact trivial | refine ⟨?_, ?_⟩) (spec_l01CNarrow_ok n x7 hx8) ?_
  rintro r0 o0 n0 ⟨rfl, rfl, rfl⟩ -
  refine awl_val hτ rfl rfl rfl ?_
  refine awl_nil ?_
  refine aw_weak (weak_ofP [] (l := [(4, .d (.cx .f32 x8.re x8.im))]) (objs := []) rfl (by simp) rfl (by repeat' first | exact trivial | refine ⟨?_, ?_⟩) ⟨rfl, trivial, trivial⟩) ?_
  refine aw_ret ?_
  have hr := Option.some.inj h
  subst hr
  exact ret_objs (.inr rfl) [] (objs' := []) (new := []) rfl (by simp) (by simp) rfl (by repeat' first | exact trivial | refine ⟨?_, ?_⟩) rfl rfl (by repeat' first | exact trivial | refine ⟨?_, ?_⟩) (fun _ => ⟨by simp [V.flat, V.flatA, V.flatC, D.flat], flat_nil⟩) ⟨rfl, rfl, rfl⟩
theorem spec_l01Mul_ok (n : Nat) (x_ : Cx) (y_ : Cx) {r : Cx} (h : m_spec_l01Mul n x_ y_ = some r) : ACall prog false 157 [.d (.cx .f32 x_.re x_.im), .d (.cx .f32 y_.re y_.im)] [] (fun v o new => v = .d (.cx .f32 r.re r.im) ∧ o = [] ∧ new = []) := spec_l01Mul_ok_fr0 false n x_ y_ h
theorem spec_l01Mul_ok_fr (n : Nat) (x_ : Cx) (y_ : Cx) {r : Cx} (h : m_spec_l01Mul n x_ y_ = some r) : ACall prog true 157 [.d (.cx .f32 x_.re x_.im), .d (.cx .f32 y_.re y_.im)] [] (fun v o new => v = .d (.cx .f32 r.re r.im) ∧ o = [] ∧ new = []) := spec_l01Mul_ok_fr0 true n x_ y_ h

def m_spec_l02Even (n : Nat) (x_ : Cx) : Option SPhases :=
  (m_spec_l01Phasor n (fneg .f64 (4599676419421066581 : Nat))).bind fun x5 =>
  (m_spec_l01Mul n x_ x5).bind fun x6 =>
  (m_spec_l01Phasor n (4599676419421066581 : Nat)).bind fun x7 =>
  (m_spec_l01Mul n x_ x7).bind fun x8 =>
  some (SPhases.mk x_ x6 x8)
theorem spec_l02Even_ok_fr0 (fr : Bool) (n : Nat) (x_ : Cx) {r : SPhases} (h : m_spec_l02Even n x_ = some r) : ACall prog fr 103 [.d (.cx .f32 x_.re x_.im)] [] (fun v o new => v = .agg [.d (.cx .f32 r.A.re r.A.im), .d (.cx .f32 r.B.re r.B.im), .d (.cx .f32 r.C.re r.C.im)] ∧ o = [] ∧ new = []) := by
  refine acall_of_aw hτ func103 rfl (by simp) (by simp) ?_
  unfold m_spec_l02Even at h
  refine aw_seq ?_
  refine aw_region ?_
  refine awl_valH hτ rfl rfl rfl ?_
  refine awl_nil ?_
  refine aw_seq ?_
  refine aw_region ?_
  refine awl_val hτ rfl rfl rfl ?_
  refine awl_nil ?_
  refine aw_seq ?_
  refine aw_region ?_
  refine awl_val hτ rfl rfl rfl ?_
  refine awl_val hτ rfl rfl rfl ?_
  refine awl_val hτ rfl rfl rfl ?_
  refine awl_val hτ rfl rfl rfl ?_
  refine bnd_elim h fun x5 hx5 h => ?_
  refine awl_callP hτ false [] rfl rfl rfl (enterOk func158 rfl rfl) rfl rfl (by simp) ⟨trivial, trivial⟩ (by repeat' first | exact trivial | refine ⟨?_, ?_⟩) (spec_l01Phasor_ok n (fneg .f64 (4599676419421066581 : Nat)) hx5) ?_
  rintro r0 o0 n0 ⟨rfl, rfl, rfl⟩ -
  refine bnd_elim h fun x6 hx6 h => ?_
  refine awl_callP hτ false [] rfl rfl rfl (enterOk func157 rfl rfl) rfl rfl (by simp) ⟨trivial, trivial, trivial⟩ (by repeat' first | exact trivial | refine ⟨?_, ?_⟩) (spec_l01Mul_ok n x_ x5 hx6) ?_
  rintro r0 o0 n0 ⟨rfl, rfl, rfl⟩ -
  refine awl_val hτ rfl rfl rfl ?_
  refine awl_val hτ rfl rfl rfl ?_
  refine bnd_elim h fun x7 hx7 h => ?_
  refine awl_callP hτ false [] rfl rfl rfl (enterOk func158 rfl rfl) rfl rfl (by simp) ⟨trivial, trivial⟩ (by repeat' first | exact trivial | refine ⟨?_, ?_⟩) (spec_l01Phasor_ok n (4599676419421066581 : Nat) hx7) ?_
  rintro r0 o0 n0 ⟨rfl, rfl, rfl⟩ -
  refine bnd_elim h fun x8 hx8 h => ?_
  refine awl_callP hτ false [] rfl rfl rfl (enterOk func157 rfl rfl) rfl rfl (by simp) ⟨trivial, trivial, trivial⟩ (by repeat' first | exact trivial | refine ⟨?_, ?_⟩) (spec_l01Mul_ok n x_ x7 hx8) ?_
  rintro r0 o0 n0 ⟨rfl, rfl, rfl⟩ -
  refine awl_val hτ rfl rfl rfl ?_
  refine awl_valH hτ rfl rfl rfl ?_
  refine awl_nil ?_
  refine aw_weak (weak_ofP [0] (l := [(2, .ptr 0 0)]) (objs := [.box [.d (.cx .f32 x_.re x_.im), .d (.cx .f32 x6.re x6.im), .d (.cx .f32 x8.re x8.im)]]) rfl (by simp) rfl (by repeat' first | exact trivial | refine ⟨?_, ?_⟩) ⟨rfl, trivial, trivial⟩) ?_
  refine aw_ret ?_
  have hr := Option.some.inj h
  subst hr
  exact ret_objs (.inr rfl) [] (objs' := []) (new := []) rfl (by simp) (by simp) rfl (by repeat' first | exact trivial | refine ⟨?_, ?_⟩) rfl rfl (by repeat' first | exact trivial | refine ⟨?_, ?_⟩) (fun _ => ⟨by simp [V.flat, V.flatA, V.flatC, D.flat], flat_nil⟩) ⟨rfl, rfl, rfl⟩
theorem spec_l02Even_ok (n : Nat) (x_ : Cx) {r : SPhases} (h : m_spec_l02Even n x_ = some r) : ACall prog false 103 [.d (.cx .f32 x_.re x_.im)] [] (fun v o new => v = .agg [.d (.cx .f32 r.A.re r.A.im), .d (.cx .f32 r.B.re r.B.im), .d (.cx .f32 r.C.re r.C.im)] ∧ o = [] ∧ new = []) := spec_l02Even_ok_fr0 false n x_ h
theorem spec_l02Even_ok_fr (n : Nat) (x_ : Cx) {r : SPhases} (h : m_spec_l02Even n x_ = some r) : ACall prog true 103 [.d (.cx .f32 x_.re x_.im)] [] (fun v o new => v = .agg [.d (.cx .f32 r.A.re r.A.im), .d (.cx .f32 r.B.re r.B.im), .d (.cx .f32 r.C.re r.C.im)] ∧ o = [] ∧ new = []) := spec_l02Even_ok_fr0 true n x_ h

def m_spec_NewDesk (n : Nat) : Option SDesk :=
  (m_spec_l02Even n (Cx.mk (1090519040 : Nat) (0 : Nat))).bind fun x2 =>
  some (SDesk.mk (SFeeder.mk x2 [(SBus.mk (-1 : Int) (Cx.mk (0 : Nat) (0 : Nat)) (Cx.mk (0 : Nat) (0 : Nat)) (0 : Int) (SPhases.mk (Cx.mk (0 : Nat) (0 : Nat)) (Cx.mk (0 : Nat) (0 : Nat)) (Cx.mk (0 : Nat) (0 : Nat))) (0 : Int))]) ([] : List STap) ([] : List SOutage))
theorem spec_NewDesk_ok_fr0 (fr : Bool) (n : Nat) {r : SDesk} (h : m_spec_NewDesk n = some r) : ACall prog fr 46 [] [] (fun v o new => v = .agg [.d (.cx .f32 r.Feeder.Source.A.re r.Feeder.Source.A.im), .d (.cx .f32 r.Feeder.Source.B.re r.Feeder.Source.B.im), .d (.cx .f32 r.Feeder.Source.C.re r.Feeder.Source.C.im), .row 0 r.Feeder.Buses.length 0 r.Feeder.Buses.length, .row 1 r.Taps.length 0 r.Taps.length, .row 2 r.List.length 0 r.List.length] ∧ o = [] ∧ new = [.row 8 (r.Feeder.Buses.map eSBus), .row 5 (r.Taps.map eSTap), .row 3 (r.List.map eSOutage)]) := by
  refine acall_of_aw hτ func46 rfl (by simp) (by simp) ?_
  unfold m_spec_NewDesk at h
  refine aw_seq ?_
  refine aw_region ?_
  refine awl_valH hτ rfl rfl rfl ?_
  refine awl_nil ?_
  refine aw_seq ?_
  refine aw_region ?_
  refine bnd_elim h fun x2 hx2 h => ?_
  refine awl_callP hτ false [] rfl rfl rfl (enterOk func103 rfl rfl) rfl rfl (by simp) ⟨trivial, trivial⟩ (by repeat' first | exact trivial | refine ⟨?_, ?_⟩) (spec_l02Even_ok n (Cx.mk (1090519040 : Nat) (0 : Nat)) hx2) ?_
  rintro r0 o0 n0 ⟨rfl, rfl, rfl⟩ -
  refine awl_val hτ rfl rfl rfl ?_
  refine awl_valH hτ rfl rfl rfl ?_
  refine awl_val hτ rfl rfl rfl ?_
  refine awl_valH hτ rfl rfl rfl ?_
  refine awl_valH hτ rfl rfl rfl ?_
  refine awl_val hτ rfl rfl rfl ?_
  refine awl_valH hτ rfl rfl rfl ?_
  refine awl_nil ?_
  refine aw_weak (weak_ofP [0, 1, 2, 3] (l := [(0, .ptr 0 0)]) (objs := [.box [.d (.cx .f32 x2.A.re x2.A.im), .d (.cx .f32 x2.B.re x2.B.im), .d (.cx .f32 x2.C.re x2.C.im), .row 1 ([(SBus.mk (-1 : Int) (Cx.mk (0 : Nat) (0 : Nat)) (Cx.mk (0 : Nat) (0 : Nat)) (0 : Int) (SPhases.mk (Cx.mk (0 : Nat) (0 : Nat)) (Cx.mk (0 : Nat) (0 : Nat)) (Cx.mk (0 : Nat) (0 : Nat))) (0 : Int))].length) 0 ([(SBus.mk (-1 : Int) (Cx.mk (0 : Nat) (0 : Nat)) (Cx.mk (0 : Nat) (0 : Nat)) (0 : Int) (SPhases.mk (Cx.mk (0 : Nat) (0 : Nat)) (Cx.mk (0 : Nat) (0 : Nat)) (Cx.mk (0 : Nat) (0 : Nat))) (0 : Int))].length), .row 2 (([] : List STap).length) 0 (([] : List STap).length), .row 3 (([] : List SOutage).length) 0 (([] : List SOutage).length)], .row 8 ([(SBus.mk (-1 : Int) (Cx.mk (0 : Nat) (0 : Nat)) (Cx.mk (0 : Nat) (0 : Nat)) (0 : Int) (SPhases.mk (Cx.mk (0 : Nat) (0 : Nat)) (Cx.mk (0 : Nat) (0 : Nat)) (Cx.mk (0 : Nat) (0 : Nat))) (0 : Int))].map eSBus), .row 5 (([] : List STap).map eSTap), .row 3 (([] : List SOutage).map eSOutage)]) rfl (by simp) rfl (by repeat' first | exact trivial | refine ⟨?_, ?_⟩) ⟨rfl, trivial, trivial⟩) ?_
  refine aw_ret ?_
  have hr := Option.some.inj h
  subst hr
  exact ret_objs (.inr rfl) [1, 2, 3] (objs' := []) (new := [.row 8 ([(SBus.mk (-1 : Int) (Cx.mk (0 : Nat) (0 : Nat)) (Cx.mk (0 : Nat) (0 : Nat)) (0 : Int) (SPhases.mk (Cx.mk (0 : Nat) (0 : Nat)) (Cx.mk (0 : Nat) (0 : Nat)) (Cx.mk (0 : Nat) (0 : Nat))) (0 : Int))].map eSBus), .row 5 (([] : List STap).map eSTap), .row 3 (([] : List SOutage).map eSOutage)]) rfl (by simp) (by simp) rfl (by repeat' first | exact trivial | refine ⟨?_, ?_⟩) rfl rfl (by repeat' first | exact trivial | refine ⟨?_, ?_⟩) (fun _ => ⟨by simp [V.flat, V.flatA, V.flatC, D.flat], (flat_cons (flat_row eSBus_flat _) (flat_cons (flat_row eSTap_flat _) (flat_cons (flat_row eSOutage_flat _) flat_nil)))⟩) ⟨rfl, rfl, rfl⟩
theorem spec_NewDesk_ok (n : Nat) {r : SDesk} (h : m_spec_NewDesk n = some r) : ACall prog false 46 [] [] (fun v o new => v = .agg [.d (.cx .f32 r.Feeder.Source.A.re r.Feeder.Source.A.im), .d (.cx .f32 r.Feeder.Source.B.re r.Feeder.Source.B.im), .d (.cx .f32 r.Feeder.Source.C.re r.Feeder.Source.C.im), .row 0 r.Feeder.Buses.length 0 r.Feeder.Buses.length, .row 1 r.Taps.length 0 r.Taps.length, .row 2 r.List.length 0 r.List.length] ∧ o = [] ∧ new = [.row 8 (r.Feeder.Buses.map eSBus), .row 5 (r.Taps.map eSTap), .row 3 (r.List.map eSOutage)]) := spec_NewDesk_ok_fr0 false n h
theorem spec_NewDesk_ok_fr (n : Nat) {r : SDesk} (h : m_spec_NewDesk n = some r) : ACall prog true 46 [] [] (fun v o new => v = .agg [.d (.cx .f32 r.Feeder.Source.A.re r.Feeder.Source.A.im), .d (.cx .f32 r.Feeder.Source.B.re r.Feeder.Source.B.im), .d (.cx .f32 r.Feeder.Source.C.re r.Feeder.Source.C.im), .row 0 r.Feeder.Buses.length 0 r.Feeder.Buses.length, .row 1 r.Taps.length 0 r.Taps.length, .row 2 r.List.length 0 r.List.length] ∧ o = [] ∧ new = [.row 8 (r.Feeder.Buses.map eSBus), .row 5 (r.Taps.map eSTap), .row 3 (r.List.map eSOutage)]) := spec_NewDesk_ok_fr0 true n h

def m_impl_nan (n : Nat) : Option Nat :=
  (m_math_NaN n).bind fun x3 =>
  (fconv .f64 .f32 x3).bind fun x4 =>
  some x4
theorem impl_nan_ok_fr0 (fr : Bool) (n : Nat) {r : Nat} (h : m_impl_nan n = some r) : ACall prog fr 192 [] [] (fun v o new => v = .d (.fl .f32 r) ∧ o = [] ∧ new = []) := by
  refine acall_of_aw hτ func192 rfl (by simp) (by simp) ?_
  unfold m_impl_nan at h
  refine aw_seq ?_
  refine aw_region ?_
  refine awl_val hτ rfl rfl rfl ?_
  refine awl_nil ?_
  refine aw_seq ?_
  refine aw_region ?_
  refine bnd_elim h fun x3 hx3 h => ?_
  refine awl_callP hτ false [] rfl rfl rfl (enterOk func208 rfl rfl) rfl rfl (by simp) trivial (by repeat' first | exact trivial | refine ⟨?_, ?_⟩) (math_NaN_ok n hx3) ?_
  rintro r0 o0 n0 ⟨rfl, rfl, rfl⟩ -
  refine bnd_elim h fun x4 hx4 h => ?_
  refine awl_val hτ (v := .d (.fl .f32 x4)) rfl rfl (conv_val hx4) ?_
  refine awl_val hτ rfl rfl rfl ?_
  refine awl_nil ?_
  refine aw_weak (weak_ofP [] (l := [(0, .d (.fl .f32 x4))]) (objs := []) rfl (by simp) rfl (by repeat' first | exact trivial | refine ⟨?_, ?_⟩) ⟨rfl, trivial, trivial⟩) ?_
  refine aw_ret ?_
  have hr := Option.some.inj h
  subst hr
  exact ret_objs (.inr rfl) [] (objs' := []) (new := []) rfl (by simp) (by simp) rfl (by repeat' first | exact trivial | refine ⟨?_, ?_⟩) rfl rfl (by repeat' first | exact trivial | refine ⟨?_, ?_⟩) (fun _ => ⟨by simp [V.flat, V.flatA, V.flatC, D.flat], flat_nil⟩) ⟨rfl, rfl, rfl⟩
theorem impl_nan_ok (n : Nat) {r : Nat} (h : m_impl_nan n = some r) : ACall prog false 192 [] [] (fun v o new => v = .d (.fl .f32 r) ∧ o = [] ∧ new = []) := impl_nan_ok_fr0 false n h
theorem impl_nan_ok_fr (n : Nat) {r : Nat} (h : m_impl_nan n = some r) : ACall prog true 192 [] [] (fun v o new => v = .d (.fl .f32 r) ∧ o = [] ∧ new = []) := impl_nan_ok_fr0 true n h

def m_math_Abs (n : Nat) (x_ : Nat) : Option Nat :=
  grd (isnan .f64 x_ = false) <|
  grd ((ibits .andNot .u64 (x_ : Int) (9223372036854775808 : Int)).toNat < 18446744073709551616) <|
  some (canon .f64 (ibits .andNot .u64 (x_ : Int) (9223372036854775808 : Int)).toNat)
theorem math_Abs_ok_fr0 (fr : Bool) (n : Nat) (x_ : Nat) {r : Nat} (h : m_math_Abs n x_ = some r) : ACall prog fr 193 [.d (.fl .f64 x_)] [] (fun v o new => v = .d (.fl .f64 r) ∧ o = [] ∧ new = []) := by
  refine acall_of_aw hτ func193 rfl (by simp) (by simp) ?_
  unfold m_math_Abs at h
  refine aw_seq ?_
  refine aw_region ?_
  refine awl_val hτ rfl rfl rfl ?_
  refine awl_nil ?_
  refine aw_seq ?_
  refine aw_region ?_
  refine awl_val hτ rfl rfl rfl ?_
  refine grd_elim h fun hg3 h => ?_
  refine awl_ext hτ rfl rfl rfl (ext212 hg3) ?_
  refine awl_val hτ rfl rfl rfl ?_
  refine grd_elim h fun hg4 h => ?_
  refine awl_ext hτ rfl rfl rfl (ext211 hg4) ?_
  refine awl_val hτ rfl rfl rfl ?_
  refine awl_nil ?_
  refine aw_weak (weak_ofP [] (l := [(2, .d (.fl .f64 (canon .f64 (ibits .andNot .u64 (x_ : Int) (9223372036854775808 : Int)).toNat)))]) (objs := []) rfl (by simp) rfl (by repeat' first | exact trivial | refine ⟨?_, ?_⟩) ⟨rfl, trivial, trivial⟩) ?_
  refine aw_ret ?_
  have hr := Option.some.inj h
  subst hr
  exact ret_objs (.inr rfl) [] (objs' := []) (new := []) rfl (by simp) (by simp) rfl (by repeat' first | exact trivial | refine ⟨?_, ?_⟩) rfl rfl (by repeat' first | exact trivial | refine ⟨?_, ?_⟩) (fun _ => ⟨by simp [V.flat, V.flatA, V.flatC, D.flat], flat_nil⟩) ⟨rfl, rfl, rfl⟩
theorem math_Abs_ok (n : Nat) (x_ : Nat) {r : Nat} (h : m_math_Abs n x_ = some r) : ACall prog false 193 [.d (.fl .f64 x_)] [] (fun v o new => v = .d (.fl .f64 r) ∧ o = [] ∧ new = []) := math_Abs_ok_fr0 false n x_ h
theorem math_Abs_ok_fr (n : Nat) (x_ : Nat) {r : Nat} (h : m_math_Abs n x_ = some r) : ACall prog true 193 [.d (.fl .f64 x_)] [] (fun v o new => v = .d (.fl .f64 r) ∧ o = [] ∧ new = []) := math_Abs_ok_fr0 true n x_ h

def m_math_Trunc (n : Nat) (x_ : Nat) : Option Nat :=
  grd (isnan .f64 x_ = false) <|
  some (fint .zero x_)
theorem math_Trunc_ok_fr0 (fr : Bool) (n : Nat) (x_ : Nat) {r : Nat} (h : m_math_Trunc n x_ = some r) : ACall prog fr 213 [.d (.fl .f64 x_)] [] (fun v o new => v = .d (.fl .f64 r) ∧ o = [] ∧ new = []) := by
  refine acall_of_aw hτ func213 rfl (by simp) (by simp) ?_
  unfold m_math_Trunc at h
  refine aw_seq ?_
  refine aw_region ?_
  refine awl_val hτ rfl rfl rfl ?_
  refine awl_nil ?_
  refine aw_seq ?_
  refine aw_cond (b := true) rfl (fun _ => ?_) (fun hd => nomatch hd)
  refine aw_seq ?_
  refine aw_region ?_
  refine awl_val hτ rfl rfl rfl ?_
  refine grd_elim h fun hg3 h => ?_
  refine awl_ext hτ rfl rfl rfl (ext214 hg3) ?_
  refine awl_val hτ rfl rfl rfl ?_
  refine awl_nil ?_
  refine aw_weak (weak_ofP [] (l := [(2, .d (.fl .f64 (fint .zero x_)))]) (objs := []) rfl (by simp) rfl (by repeat' first | exact trivial | refine ⟨?_, ?_⟩) ⟨rfl, trivial, trivial⟩) ?_
  refine aw_ret ?_
  have hr := Option.some.inj h
  subst hr
  exact ret_objs (.inr rfl) [] (objs' := []) (new := []) rfl (by simp) (by simp) rfl (by repeat' first | exact trivial | refine ⟨?_, ?_⟩) rfl rfl (by repeat' first | exact trivial | refine ⟨?_, ?_⟩) (fun _ => ⟨by simp [V.flat, V.flatA, V.flatC, D.flat], flat_nil⟩) ⟨rfl, rfl, rfl⟩
theorem math_Trunc_ok (n : Nat) (x_ : Nat) {r : Nat} (h : m_math_Trunc n x_ = some r) : ACall prog false 213 [.d (.fl .f64 x_)] [] (fun v o new => v = .d (.fl .f64 r) ∧ o = [] ∧ new = []) := math_Trunc_ok_fr0 false n x_ h
theorem math_Trunc_ok_fr (n : Nat) (x_ : Nat) {r : Nat} (h : m_math_Trunc n x_ = some r) : ACall prog true 213 [.d (.fl .f64 x_)] [] (fun v o new => v = .d (.fl .f64 r) ∧ o = [] ∧ new = []) := math_Trunc_ok_fr0 true n x_ h

def m_impl_partOf_j1 (n : Nat) (v6 : Nat) : Option Nat :=
  if (fcmp .lss .f64 v6 (0 : Nat)) = true then
    some (farith .add .f64 v6 (4607182418800017408 : Nat))
  else
    some v6
def m_impl_partOf (n : Nat) (f_ : Nat) : Option Nat :=
  (m_math_Trunc n f_).bind fun x9 =>
  if (fcmp .neq .f64 x9 (0 : Nat)) = true then
    m_impl_partOf_j1 n (farith .sub .f64 f_ x9)
  else
    m_impl_partOf_j1 n f_
theorem impl_partOf_ok_fr0 (fr : Bool) (n : Nat) (f_ : Nat) {r : Nat} (h : m_impl_partOf n f_ = some r) : ACall prog fr 194 [.d (.fl .f64 f_)] [] (fun v o new => v = .d (.fl .f64 r) ∧ o = [] ∧ new = []) := by
  refine acall_of_aw hτ func194 rfl (by simp) (by simp) ?_
  unfold m_impl_partOf at h
  refine aw_seq ?_
  refine aw_region ?_
  refine awl_val hτ rfl rfl rfl ?_
  refine awl_nil ?_
  refine aw_hk1 (ι := Nat) (fun v6 => St.of [(0, .d (.fl .f64 v6))] [] f194.ntmps 0) (fun v6 => m_impl_partOf_j1 n v6 = some r) ?_ (fun hk8 => ?_)
  · rintro v6 h
    replace h : m_impl_partOf_j1 n v6 = some r := h
    unfold m_impl_partOf_j1 at h
    refine aw_seq ?_
    refine aw_seq ?_
    refine aw_region ?_
    refine awl_val hτ rfl rfl rfl ?_
    refine awl_val hτ rfl rfl rfl ?_
    refine awl_nil ?_
    refine aw_cond rfl (fun hc7 => ?_) (fun hc7 => ?_)
    · have h := if_bt h hc7
      refine aw_region ?_
      refine awl_val hτ rfl rfl rfl ?_
      refine awl_val hτ rfl rfl rfl ?_
      refine awl_val hτ rfl rfl rfl ?_
      refine awl_nil ?_
      refine aw_seq ?_
      refine aw_region ?_
      refine awl_val hτ rfl rfl rfl ?_
      refine awl_val hτ rfl rfl rfl ?_
      refine awl_nil ?_
      refine aw_weak (weak_ofP [] (l := [(2, .d (.fl .f64 (farith .add .f64 v6 (4607182418800017408 : Nat))))]) (objs := []) rfl (by simp) rfl (by repeat' first | exact trivial | refine ⟨?_, ?_⟩) ⟨rfl, trivial, trivial⟩) ?_
      refine aw_ret ?_
      have hr := Option.some.inj h
      subst hr
      exact ret_objs (.inr rfl) [] (objs' := []) (new := []) rfl (by simp) (by simp) rfl (by repeat' first | exact trivial | refine ⟨?_, ?_⟩) rfl rfl (by repeat' first | exact trivial | refine ⟨?_, ?_⟩) (fun _ => ⟨by simp [V.flat, V.flatA, V.flatC, D.flat], flat_nil⟩) ⟨rfl, rfl, rfl⟩
    · have h := if_bf h hc7
      refine aw_skip ?_
      refine aw_seq ?_
      refine aw_region ?_
      refine awl_val hτ rfl rfl rfl ?_
      refine awl_val hτ rfl rfl rfl ?_
      refine awl_nil ?_
      refine aw_weak (weak_ofP [] (l := [(2, .d (.fl .f64 v6))]) (objs := []) rfl (by simp) rfl (by repeat' first | exact trivial | refine ⟨?_, ?_⟩) ⟨rfl, trivial, trivial⟩) ?_
      refine aw_ret ?_
      have hr := Option.some.inj h
      subst hr
      exact ret_objs (.inr rfl) [] (objs' := []) (new := []) rfl (by simp) (by simp) rfl (by repeat' first | exact trivial | refine ⟨?_, ?_⟩) rfl rfl (by repeat' first | exact trivial | refine ⟨?_, ?_⟩) (fun _ => ⟨by simp [V.flat, V.flatA, V.flatC, D.flat], flat_nil⟩) ⟨rfl, rfl, rfl⟩
  · refine aw_seq ?_
    refine aw_seq ?_
    refine aw_region ?_
    refine awl_val hτ rfl rfl rfl ?_
    refine bnd_elim h fun x9 hx9 h => ?_
    refine awl_callP hτ false [] rfl rfl rfl (enterOk func213 rfl rfl) rfl rfl (by simp) ⟨trivial, trivial⟩ (by repeat' first | exact trivial | refine ⟨?_, ?_⟩) (math_Trunc_ok n f_ hx9) ?_
    rintro r0 o0 n0 ⟨rfl, rfl, rfl⟩ -
    refine awl_val hτ rfl rfl rfl ?_
    refine awl_nil ?_
    refine aw_seq ?_
    refine aw_region ?_
    refine awl_val hτ rfl rfl rfl ?_
    refine awl_val hτ rfl rfl rfl ?_
    refine awl_nil ?_
    refine aw_weak (weak_ofP [] (l := [(0, .d (.fl .f64 f_)), (3, .d (.fl .f64 x9)), (7, .d (.bool (fcmp .neq .f64 x9 (0 : Nat))))]) (objs := []) rfl (by simp) rfl (by repeat' first | exact trivial | refine ⟨?_, ?_⟩) ⟨rfl, trivial, rfl, trivial, rfl, trivial, trivial⟩) ?_
    refine aw_cond rfl (fun hc10 => ?_) (fun hc10 => ?_)
    · have h := if_bt h hc10
      refine aw_region ?_
      refine awl_val hτ rfl rfl rfl ?_
      refine awl_val hτ rfl rfl rfl ?_
      refine awl_val hτ rfl rfl rfl ?_
      refine awl_val hτ rfl rfl rfl ?_
      refine awl_nil ?_
      refine aw_weak (weak_ofP [] (l := [(0, .d (.fl .f64 (farith .sub .f64 f_ x9)))]) (objs := []) rfl (by simp) rfl (by repeat' first | exact trivial | refine ⟨?_, ?_⟩) ⟨rfl, trivial, trivial⟩) ?_
      exact hk8 (farith .sub .f64 f_ x9) h
    · have h := if_bf h hc10
      refine aw_skip ?_
      refine aw_weak (weak_ofP [] (l := [(0, .d (.fl .f64 f_))]) (objs := []) rfl (by simp) rfl (by repeat' first | exact trivial | refine ⟨?_, ?_⟩) ⟨rfl, trivial, trivial⟩) ?_
      exact hk8 f_ h
theorem impl_partOf_ok (n : Nat) (f_ : Nat) {r : Nat} (h : m_impl_partOf n f_ = some r) : ACall prog false 194 [.d (.fl .f64 f_)] [] (fun v o new => v = .d (.fl .f64 r) ∧ o = [] ∧ new = []) := impl_partOf_ok_fr0 false n f_ h
theorem impl_partOf_ok_fr (n : Nat) (f_ : Nat) {r : Nat} (h : m_impl_partOf n f_ = some r) : ACall prog true 194 [.d (.fl .f64 f_)] [] (fun v o new => v = .d (.fl .f64 r) ∧ o = [] ∧ new = []) := impl_partOf_ok_fr0 true n f_ h

def m_impl_sine_j3 (n : Nat) (x8 : Nat) (v12 : Nat) (v17 : Nat) : Option Nat :=
  if (fcmp .geq .f64 x8 (4602678819172646912 : Nat)) = true then
    some (fneg .f64 (farith .mul .f64 (farith .mul .f64 v12 (4618760256179416344 : Nat)) v17))
  else
    some (farith .mul .f64 (farith .mul .f64 v12 (4618760256179416344 : Nat)) v17)
def m_impl_sine_l4 (n : Nat) (x8 : Nat) (v12 : Nat) : Nat → Nat → Int → Option Nat
  | 0, _, _ => none
  | m24 + 1, v20, v21 =>
    if v21 ≥ (1 : Int) then
      (m_impl_sine_l4 n x8 v12 m24) (farith .sub .f64 (4607182418800017408 : Nat) (farith .quo .f64 (farith .mul .f64 (farith .mul .f64 (farith .mul .f64 v12 (4618760256179416344 : Nat)) (farith .mul .f64 v12 (4618760256179416344 : Nat))) v20) (FloatKind.nearest .f64 (w64 ((w64 ((2 : Int) * v21)) * (w64 ((w64 ((2 : Int) * v21)) + (1 : Int)))))))) (w64 (v21 - (1 : Int)))
    else
      m_impl_sine_j3 n x8 v12 v20
def m_impl_sine_j2 (n : Nat) (x8 : Nat) (v12 : Nat) : Option Nat :=
  m_impl_sine_l4 n x8 v12 n (4607182418800017408 : Nat) (8 : Int)
def m_impl_sine_j1 (n : Nat) (x8 : Nat) (v10 : Nat) : Option Nat :=
  if (fcmp .gtr .f64 v10 (4598175219545276416 : Nat)) = true then
    m_impl_sine_j2 n x8 (farith .sub .f64 (4602678819172646912 : Nat) v10)
  else
    m_impl_sine_j2 n x8 v10
def m_impl_sine (n : Nat) (turns_ : Nat) : Option Nat :=
  (m_impl_partOf n turns_).bind fun x8 =>
  if (fcmp .geq .f64 x8 (4602678819172646912 : Nat)) = true then
    m_impl_sine_j1 n x8 (farith .sub .f64 x8 (4602678819172646912 : Nat))
  else
    m_impl_sine_j1 n x8 x8
theorem impl_sine_ok_fr0 (fr : Bool) (n : Nat) (turns_ : Nat) {r : Nat} (h : m_impl_sine n turns_ = some r) : ACall prog fr 195 [.d (.fl .f64 turns_)] [] (fun v o new => v = .d (.fl .f64 r) ∧ o = [] ∧ new = []) := by
  refine acall_of_aw hτ func195 rfl (by simp) (by simp) ?_
  unfold m_impl_sine at h
  refine aw_seq ?_
  refine aw_region ?_
  refine awl_val hτ rfl rfl rfl ?_
  refine awl_nil ?_
  refine aw_seq ?_
  refine aw_region ?_
  refine awl_val hτ rfl rfl rfl ?_
  refine bnd_elim h fun x8 hx8 h => ?_
  refine awl_callP hτ false [] rfl rfl rfl (enterOk func194 rfl rfl) rfl rfl (by simp) ⟨trivial, trivial⟩ (by repeat' first | exact trivial | refine ⟨?_, ?_⟩) (impl_partOf_ok n turns_ hx8) ?_
  rintro r0 o0 n0 ⟨rfl, rfl, rfl⟩ -
  refine awl_val hτ rfl rfl rfl ?_
  refine awl_nil ?_
  refine aw_seq ?_
  refine aw_region ?_
  refine awl_val hτ rfl rfl rfl ?_
  refine awl_val hτ rfl rfl rfl ?_
  refine awl_val hτ rfl rfl rfl ?_
  refine awl_nil ?_
  refine aw_hk1 (ι := Nat) (fun v10 => St.of [(3, .d (.fl .f64 v10)), (4, .d (.bool (fcmp .geq .f64 x8 (4602678819172646912 : Nat))))] [] f195.ntmps 0) (fun v10 => m_impl_sine_j1 n x8 v10 = some r) ?_ (fun hk29 => ?_)
  · rintro v10 h
    replace h : m_impl_sine_j1 n x8 v10 = some r := h
    unfold m_impl_sine_j1 at h
    refine aw_hk1 (ι := Nat) (fun v12 => St.of [(3, .d (.fl .f64 v12)), (4, .d (.bool (fcmp .geq .f64 x8 (4602678819172646912 : Nat))))] [] f195.ntmps 0) (fun v12 => m_impl_sine_j2 n x8 v12 = some r) ?_ (fun hk27 => ?_)
    · rintro v12 h
      replace h : m_impl_sine_j2 n x8 v12 = some r := h
      unfold m_impl_sine_j2 at h
      refine aw_seq ?_
      refine aw_region ?_
      refine awl_val hτ rfl rfl rfl ?_
      refine awl_val hτ rfl rfl rfl ?_
      refine awl_val hτ rfl rfl rfl ?_
      refine awl_nil ?_
      refine aw_seq ?_
      refine aw_region ?_
      refine awl_val hτ rfl rfl rfl ?_
      refine awl_val hτ rfl rfl rfl ?_
      refine awl_val hτ rfl rfl rfl ?_
      refine awl_val hτ rfl rfl rfl ?_
      refine awl_val hτ rfl rfl rfl ?_
      refine awl_nil ?_
      refine aw_hk1 (ι := Nat) (fun v17 => St.of [(4, .d (.bool (fcmp .geq .f64 x8 (4602678819172646912 : Nat)))), (5, .d (.fl .f64 (farith .mul .f64 v12 (4618760256179416344 : Nat)))), (7, .d (.fl .f64 v17))] [] f195.ntmps 0) (fun v17 => m_impl_sine_j3 n x8 v12 v17 = some r) ?_ (fun hk19 => ?_)
      · rintro v17 h
        replace h : m_impl_sine_j3 n x8 v12 v17 = some r := h
        unfold m_impl_sine_j3 at h
        refine aw_seq ?_
        refine aw_seq ?_
        refine aw_region ?_
        refine awl_val hτ rfl rfl rfl ?_
        refine awl_nil ?_
        refine aw_cond rfl (fun hc18 => ?_) (fun hc18 => ?_)
        · have h := if_bt h hc18
          refine aw_seq ?_
          refine aw_region ?_
          refine awl_val hτ rfl rfl rfl ?_
          refine awl_val hτ rfl rfl rfl ?_
          refine awl_val hτ rfl rfl rfl ?_
          refine awl_val hτ rfl rfl rfl ?_
          refine awl_val hτ rfl rfl rfl ?_
          refine awl_nil ?_
          refine aw_weak (weak_ofP [] (l := [(2, .d (.fl .f64 (fneg .f64 (farith .mul .f64 (farith .mul .f64 v12 (4618760256179416344 : Nat)) v17))))]) (objs := []) rfl (by simp) rfl (by repeat' first | exact trivial | refine ⟨?_, ?_⟩) ⟨rfl, trivial, trivial⟩) ?_
          refine aw_ret ?_
          have hr := Option.some.inj h
          subst hr
          exact ret_objs (.inr rfl) [] (objs' := []) (new := []) rfl (by simp) (by simp) rfl (by repeat' first | exact trivial | refine ⟨?_, ?_⟩) rfl rfl (by repeat' first | exact trivial | refine ⟨?_, ?_⟩) (fun _ => ⟨by simp [V.flat, V.flatA, V.flatC, D.flat], flat_nil⟩) ⟨rfl, rfl, rfl⟩
        · have h := if_bf h hc18
          refine aw_skip ?_
          refine aw_seq ?_
          refine aw_region ?_
          refine awl_val hτ rfl rfl rfl ?_
          refine awl_val hτ rfl rfl rfl ?_
          refine awl_val hτ rfl rfl rfl ?_
          refine awl_val hτ rfl rfl rfl ?_
          refine awl_nil ?_
          refine aw_weak (weak_ofP [] (l := [(2, .d (.fl .f64 (farith .mul .f64 (farith .mul .f64 v12 (4618760256179416344 : Nat)) v17)))]) (objs := []) rfl (by simp) rfl (by repeat' first | exact trivial | refine ⟨?_, ?_⟩) ⟨rfl, trivial, trivial⟩) ?_
          refine aw_ret ?_
          have hr := Option.some.inj h
          subst hr
          exact ret_objs (.inr rfl) [] (objs' := []) (new := []) rfl (by simp) (by simp) rfl (by repeat' first | exact trivial | refine ⟨?_, ?_⟩) rfl rfl (by repeat' first | exact trivial | refine ⟨?_, ?_⟩) (fun _ => ⟨by simp [V.flat, V.flatA, V.flatC, D.flat], flat_nil⟩) ⟨rfl, rfl, rfl⟩
      · refine aw_seq ?_
        refine aw_seq ?_
        refine aw_weak (weak_ofP [] (l := [(4, .d (.bool (fcmp .geq .f64 x8 (4602678819172646912 : Nat)))), (5, .d (.fl .f64 (farith .mul .f64 v12 (4618760256179416344 : Nat)))), (6, .d (.fl .f64 (farith .mul .f64 (farith .mul .f64 v12 (4618760256179416344 : Nat)) (farith .mul .f64 v12 (4618760256179416344 : Nat))))), (7, .d (.fl .f64 (4607182418800017408 : Nat)))]) (objs := []) rfl (by simp) rfl (by repeat' first | exact trivial | refine ⟨?_, ?_⟩) ⟨rfl, trivial, rfl, trivial, rfl, trivial, rfl, trivial, trivial⟩) ?_
        refine aw_region ?_
        refine awl_val hτ rfl rfl rfl ?_
        refine awl_nil ?_
        refine aw_block ?_
        refine aw_loop (ι := Nat × Nat × Int) (fun (m24, v20, v21) => St.of [(4, .d (.bool (fcmp .geq .f64 x8 (4602678819172646912 : Nat)))), (5, .d (.fl .f64 (farith .mul .f64 v12 (4618760256179416344 : Nat)))), (6, .d (.fl .f64 (farith .mul .f64 (farith .mul .f64 v12 (4618760256179416344 : Nat)) (farith .mul .f64 v12 (4618760256179416344 : Nat))))), (7, .d (.fl .f64 v20)), (8, .d (.int .i64 v21))] [] f195.ntmps 0) (fun (m24, v20, v21) => m_impl_sine_l4 n x8 v12 m24 v20 v21 = some r) (fun x => x.1) (n, (4607182418800017408 : Nat), (8 : Int)) h (weak_ofP [] (l := [(4, .d (.bool (fcmp .geq .f64 x8 (4602678819172646912 : Nat)))), (5, .d (.fl .f64 (farith .mul .f64 v12 (4618760256179416344 : Nat)))), (6, .d (.fl .f64 (farith .mul .f64 (farith .mul .f64 v12 (4618760256179416344 : Nat)) (farith .mul .f64 v12 (4618760256179416344 : Nat))))), (7, .d (.fl .f64 (4607182418800017408 : Nat))), (8, .d (.int .i64 (8 : Int)))]) (objs := []) rfl (by simp) rfl (by repeat' first | exact trivial | refine ⟨?_, ?_⟩) ⟨rfl, trivial, rfl, trivial, rfl, trivial, rfl, trivial, rfl, trivial, trivial⟩) ?_
        rintro ⟨m24, v20, v21⟩ h
        replace h : m_impl_sine_l4 n x8 v12 m24 v20 v21 = some r := h
        rcases m24 with _ | m24
        · rw [m_impl_sine_l4] at h; cases h
        rw [m_impl_sine_l4] at h
        refine aw_seq ?_
        refine aw_seq ?_
        refine aw_region ?_
        refine awl_val hτ rfl rfl rfl ?_
        refine awl_val hτ rfl rfl rfl ?_
        refine awl_nil ?_
        refine aw_cond rfl (fun hc26 => ?_) (fun hc26 => ?_)
        · have h := if_t h hc26
          refine aw_skip ?_
          refine aw_seq ?_
          refine aw_block ?_
          refine aw_region ?_
          refine awl_val hτ rfl rfl rfl ?_
          refine awl_val hτ rfl rfl rfl ?_
          refine awl_val hτ rfl rfl rfl ?_
          refine awl_val hτ rfl rfl rfl ?_
          refine awl_val hτ rfl rfl rfl ?_
          refine awl_val hτ rfl rfl rfl ?_
          refine awl_val hτ rfl rfl rfl ?_
          refine awl_val hτ rfl rfl rfl ?_
          refine awl_val hτ rfl rfl rfl ?_
          refine awl_val hτ rfl rfl rfl ?_
          refine awl_val hτ rfl rfl rfl ?_
          refine awl_val hτ rfl rfl rfl ?_
          refine awl_val hτ rfl rfl rfl ?_
          refine awl_nil ?_
          refine aw_weak (weak_ofP [] (l := [(4, .d (.bool (fcmp .geq .f64 x8 (4602678819172646912 : Nat)))), (5, .d (.fl .f64 (farith .mul .f64 v12 (4618760256179416344 : Nat)))), (6, .d (.fl .f64 (farith .mul .f64 (farith .mul .f64 v12 (4618760256179416344 : Nat)) (farith .mul .f64 v12 (4618760256179416344 : Nat))))), (7, .d (.fl .f64 (farith .sub .f64 (4607182418800017408 : Nat) (farith .quo .f64 (farith .mul .f64 (farith .mul .f64 (farith .mul .f64 v12 (4618760256179416344 : Nat)) (farith .mul .f64 v12 (4618760256179416344 : Nat))) v20) (FloatKind.nearest .f64 (w64 ((w64 ((2 : Int) * v21)) * (w64 ((w64 ((2 : Int) * v21)) + (1 : Int)))))))))), (8, .d (.int .i64 v21))]) (objs := []) rfl (by simp) rfl (by repeat' first | exact trivial | refine ⟨?_, ?_⟩) ⟨rfl, trivial, rfl, trivial, rfl, trivial, rfl, trivial, rfl, trivial, trivial⟩) ?_
          refine aw_region ?_
          refine awl_val hτ rfl rfl rfl ?_
          refine awl_val hτ rfl rfl rfl ?_
          refine awl_val hτ rfl rfl rfl ?_
          refine awl_nil ?_
          exact ⟨(m24, (farith .sub .f64 (4607182418800017408 : Nat) (farith .quo .f64 (farith .mul .f64 (farith .mul .f64 (farith .mul .f64 v12 (4618760256179416344 : Nat)) (farith .mul .f64 v12 (4618760256179416344 : Nat))) v20) (FloatKind.nearest .f64 (w64 ((w64 ((2 : Int) * v21)) * (w64 ((w64 ((2 : Int) * v21)) + (1 : Int)))))))), (w64 (v21 - (1 : Int)))), h, Nat.lt_succ_self m24, (weak_ofP [] (l := [(4, .d (.bool (fcmp .geq .f64 x8 (4602678819172646912 : Nat)))), (5, .d (.fl .f64 (farith .mul .f64 v12 (4618760256179416344 : Nat)))), (6, .d (.fl .f64 (farith .mul .f64 (farith .mul .f64 v12 (4618760256179416344 : Nat)) (farith .mul .f64 v12 (4618760256179416344 : Nat))))), (7, .d (.fl .f64 (farith .sub .f64 (4607182418800017408 : Nat) (farith .quo .f64 (farith .mul .f64 (farith .mul .f64 (farith .mul .f64 v12 (4618760256179416344 : Nat)) (farith .mul .f64 v12 (4618760256179416344 : Nat))) v20) (FloatKind.nearest .f64 (w64 ((w64 ((2 : Int) * v21)) * (w64 ((w64 ((2 : Int) * v21)) + (1 : Int)))))))))), (8, .d (.int .i64 (w64 (v21 - (1 : Int)))))]) (objs := []) rfl (by simp) rfl (by repeat' first | exact trivial | refine ⟨?_, ?_⟩) ⟨rfl, trivial, rfl, trivial, rfl, trivial, rfl, trivial, rfl, trivial, trivial⟩)⟩
        · have h := if_f h hc26
          refine aw_exit ?_
          refine aw_weak (weak_ofP [] (l := [(4, .d (.bool (fcmp .geq .f64 x8 (4602678819172646912 : Nat)))), (5, .d (.fl .f64 (farith .mul .f64 v12 (4618760256179416344 : Nat)))), (7, .d (.fl .f64 v20))]) (objs := []) rfl (by simp) rfl (by repeat' first | exact trivial | refine ⟨?_, ?_⟩) ⟨rfl, trivial, rfl, trivial, rfl, trivial, trivial⟩) ?_
          exact hk19 v20 h
    · refine aw_seq ?_
      refine aw_seq ?_
      refine aw_region ?_
      refine awl_val hτ rfl rfl rfl ?_
      refine awl_val hτ rfl rfl rfl ?_
      refine awl_nil ?_
      refine aw_cond rfl (fun hc28 => ?_) (fun hc28 => ?_)
      · have h := if_bt h hc28
        refine aw_region ?_
        refine awl_val hτ rfl rfl rfl ?_
        refine awl_val hτ rfl rfl rfl ?_
        refine awl_val hτ rfl rfl rfl ?_
        refine awl_nil ?_
        refine aw_weak (weak_ofP [] (l := [(3, .d (.fl .f64 (farith .sub .f64 (4602678819172646912 : Nat) v10))), (4, .d (.bool (fcmp .geq .f64 x8 (4602678819172646912 : Nat))))]) (objs := []) rfl (by simp) rfl (by repeat' first | exact trivial | refine ⟨?_, ?_⟩) ⟨rfl, trivial, rfl, trivial, trivial⟩) ?_
        exact hk27 (farith .sub .f64 (4602678819172646912 : Nat) v10) h
      · have h := if_bf h hc28
        refine aw_skip ?_
        refine aw_weak (weak_ofP [] (l := [(3, .d (.fl .f64 v10)), (4, .d (.bool (fcmp .geq .f64 x8 (4602678819172646912 : Nat))))]) (objs := []) rfl (by simp) rfl (by repeat' first | exact trivial | refine ⟨?_, ?_⟩) ⟨rfl, trivial, rfl, trivial, trivial⟩) ?_
        exact hk27 v10 h
  · refine aw_seq ?_
    refine aw_seq ?_
    refine aw_weak (weak_ofP [] (l := [(3, .d (.fl .f64 x8)), (4, .d (.bool (fcmp .geq .f64 x8 (4602678819172646912 : Nat))))]) (objs := []) rfl (by simp) rfl (by repeat' first | exact trivial | refine ⟨?_, ?_⟩) ⟨rfl, trivial, rfl, trivial, trivial⟩) ?_
    refine aw_region ?_
    refine awl_val hτ rfl rfl rfl ?_
    refine awl_nil ?_
    refine aw_cond rfl (fun hc30 => ?_) (fun hc30 => ?_)
    · have h := if_bt h hc30
      refine aw_region ?_
      refine awl_val hτ rfl rfl rfl ?_
      refine awl_val hτ rfl rfl rfl ?_
      refine awl_val hτ rfl rfl rfl ?_
      refine awl_nil ?_
      refine aw_weak (weak_ofP [] (l := [(3, .d (.fl .f64 (farith .sub .f64 x8 (4602678819172646912 : Nat)))), (4, .d (.bool (fcmp .geq .f64 x8 (4602678819172646912 : Nat))))]) (objs := []) rfl (by simp) rfl (by repeat' first | exact trivial | refine ⟨?_, ?_⟩) ⟨rfl, trivial, rfl, trivial, trivial⟩) ?_
      exact hk29 (farith .sub .f64 x8 (4602678819172646912 : Nat)) h
    · have h := if_bf h hc30
      refine aw_skip ?_
      refine aw_weak (weak_ofP [] (l := [(3, .d (.fl .f64 x8)), (4, .d (.bool (fcmp .geq .f64 x8 (4602678819172646912 : Nat))))]) (objs := []) rfl (by simp) rfl (by repeat' first | exact trivial | refine ⟨?_, ?_⟩) ⟨rfl, trivial, rfl, trivial, trivial⟩) ?_
      exact hk29 x8 h
theorem impl_sine_ok (n : Nat) (turns_ : Nat) {r : Nat} (h : m_impl_sine n turns_ = some r) : ACall prog false 195 [.d (.fl .f64 turns_)] [] (fun v o new => v = .d (.fl .f64 r) ∧ o = [] ∧ new = []) := impl_sine_ok_fr0 false n turns_ h
theorem impl_sine_ok_fr (n : Nat) (turns_ : Nat) {r : Nat} (h : m_impl_sine n turns_ = some r) : ACall prog true 195 [.d (.fl .f64 turns_)] [] (fun v o new => v = .d (.fl .f64 r) ∧ o = [] ∧ new = []) := impl_sine_ok_fr0 true n turns_ h

def m_impl_PhasorOf_j2 (n : Nat) (v42 : Nat) (v43 : Nat) : Option Cx :=
  (fconv .f64 .f32 v42).bind fun x44 =>
  (fconv .f64 .f32 v43).bind fun x45 =>
  some (Cx.mk x44 x45)
def m_impl_PhasorOf_j1 (n : Nat) (v32 : Nat) (v33 : Int) : Option Cx :=
  (m_impl_sine n (farith .sub .f64 (4598175219545276416 : Nat) v32)).bind fun x34 =>
  (m_impl_sine n v32).bind fun x35 =>
  if v33 = (1 : Int) then
    m_impl_PhasorOf_j2 n (farith .sub .f64 (0 : Nat) x35) x34
  else
    if v33 = (2 : Int) then
      m_impl_PhasorOf_j2 n (farith .sub .f64 (0 : Nat) x34) (farith .sub .f64 (0 : Nat) x35)
    else
      if v33 = (3 : Int) then
        m_impl_PhasorOf_j2 n x35 (farith .sub .f64 (0 : Nat) x34)
      else
        m_impl_PhasorOf_j2 n x34 x35
def m_impl_PhasorOf_l3 (n : Nat) : Nat → Nat → Int → Option Cx
  | 0, _, _ => none
  | m55 + 1, v51, v52 =>
    if (fcmp .geq .f64 v51 (4598175219545276416 : Nat)) = true then
      (m_impl_PhasorOf_l3 n m55) (farith .sub .f64 v51 (4598175219545276416 : Nat)) (w64 (v52 + (1 : Int)))
    else
      m_impl_PhasorOf_j1 n v51 v52
def m_impl_PhasorOf (n : Nat) (turns_ : Nat) : Option Cx :=
  if (fcmp .neq .f64 (farith .sub .f64 turns_ turns_) (0 : Nat)) = true then
    (m_impl_nan n).bind fun x23 =>
    (m_impl_nan n).bind fun x24 =>
    some (Cx.mk x23 x24)
  else
    (m_math_Abs n turns_).bind fun x25 =>
    if (fcmp .geq .f64 x25 (4841369599423283200 : Nat)) = true then
      some (Cx.mk (1065353216 : Nat) (0 : Nat))
    else
      (m_impl_partOf n turns_).bind fun x27 =>
      m_impl_PhasorOf_l3 n n x27 (0 : Int)
theorem impl_PhasorOf_ok_fr0 (fr : Bool) (n : Nat) (turns_ : Nat) {r : Cx} (h : m_impl_PhasorOf n turns_ = some r) : ACall prog fr 165 [.d (.fl .f64 turns_)] [] (fun v o new => v = .d (.cx .f32 r.re r.im) ∧ o = [] ∧ new = []) := by
  refine acall_of_aw hτ func165 rfl (by simp) (by simp) ?_
  unfold m_impl_PhasorOf at h
  refine aw_seq ?_
  refine aw_region ?_
  refine awl_val hτ rfl rfl rfl ?_
  refine awl_nil ?_
  refine aw_seq ?_
  refine aw_block ?_
  refine aw_seq ?_
  refine aw_region ?_
  refine awl_val hτ rfl rfl rfl ?_
  refine awl_val hτ rfl rfl rfl ?_
  refine awl_val hτ rfl rfl rfl ?_
  refine awl_val hτ rfl rfl rfl ?_
  refine awl_val hτ rfl rfl rfl ?_
  refine awl_nil ?_
  refine aw_weak (weak_ofP [] (l := [(0, .d (.fl .f64 turns_)), (7, .d (.bool (fcmp .neq .f64 (farith .sub .f64 turns_ turns_) (0 : Nat))))]) (objs := []) rfl (by simp) rfl (by repeat' first | exact trivial | refine ⟨?_, ?_⟩) ⟨rfl, trivial, rfl, trivial, trivial⟩) ?_
  refine aw_cond rfl (fun hc22 => ?_) (fun hc22 => ?_)
  · have h := if_bt h hc22
    refine aw_seq ?_
    refine aw_region ?_
    refine bnd_elim h fun x23 hx23 h => ?_
    refine awl_callP hτ false [] rfl rfl rfl (enterOk func192 rfl rfl) rfl rfl (by simp) trivial (by repeat' first | exact trivial | refine ⟨?_, ?_⟩) (impl_nan_ok n hx23) ?_
    rintro r0 o0 n0 ⟨rfl, rfl, rfl⟩ -
    refine bnd_elim h fun x24 hx24 h => ?_
    refine awl_callP hτ false [] rfl rfl rfl (enterOk func192 rfl rfl) rfl rfl (by simp) trivial (by repeat' first | exact trivial | refine ⟨?_, ?_⟩) (impl_nan_ok n hx24) ?_
    rintro r0 o0 n0 ⟨rfl, rfl, rfl⟩ -
    refine awl_val hτ rfl rfl rfl ?_
    refine awl_val hτ rfl rfl rfl ?_
    refine awl_nil ?_
    refine aw_weak (weak_ofP [] (l := [(2, .d (.cx .f32 x23 x24))]) (objs := []) rfl (by simp) rfl (by repeat' first | exact trivial | refine ⟨?_, ?_⟩) ⟨rfl, trivial, trivial⟩) ?_
    refine aw_ret ?_
    have hr := Option.some.inj h
    subst hr
    exact ret_objs (.inr rfl) [] (objs' := []) (new := []) rfl (by simp) (by simp) rfl (by repeat' first | exact trivial | refine ⟨?_, ?_⟩) rfl rfl (by repeat' first | exact trivial | refine ⟨?_, ?_⟩) (fun _ => ⟨by simp [V.flat, V.flatA, V.flatC, D.flat], flat_nil⟩) ⟨rfl, rfl, rfl⟩
  · have h := if_bf h hc22
    refine aw_seq ?_
    refine aw_region ?_
    refine awl_val hτ rfl rfl rfl ?_
    refine bnd_elim h fun x25 hx25 h => ?_
    refine awl_callP hτ false [] rfl rfl rfl (enterOk func193 rfl rfl) rfl rfl (by simp) ⟨trivial, trivial⟩ (by repeat' first | exact trivial | refine ⟨?_, ?_⟩) (math_Abs_ok n turns_ hx25) ?_
    rintro r0 o0 n0 ⟨rfl, rfl, rfl⟩ -
    refine awl_val hτ rfl rfl rfl ?_
    refine awl_val hτ rfl rfl rfl ?_
    refine awl_nil ?_
    refine aw_cond rfl (fun hc26 => ?_) (fun hc26 => ?_)
    · have h := if_bt h hc26
      refine aw_seq ?_
      refine aw_region ?_
      refine awl_val hτ rfl rfl rfl ?_
      refine awl_nil ?_
      refine aw_weak (weak_ofP [] (l := [(2, .d (.cx .f32 (1065353216 : Nat) (0 : Nat)))]) (objs := []) rfl (by simp) rfl (by repeat' first | exact trivial | refine ⟨?_, ?_⟩) ⟨rfl, trivial, trivial⟩) ?_
      refine aw_ret ?_
      have hr := Option.some.inj h
      subst hr
      exact ret_objs (.inr rfl) [] (objs' := []) (new := []) rfl (by simp) (by simp) rfl (by repeat' first | exact trivial | refine ⟨?_, ?_⟩) rfl rfl (by repeat' first | exact trivial | refine ⟨?_, ?_⟩) (fun _ => ⟨by simp [V.flat, V.flatA, V.flatC, D.flat], flat_nil⟩) ⟨rfl, rfl, rfl⟩
    · have h := if_bf h hc26
      refine aw_skip ?_
      refine aw_seq ?_
      refine aw_region ?_
      refine awl_val hτ rfl rfl rfl ?_
      refine bnd_elim h fun x27 hx27 h => ?_
      refine awl_callP hτ false [] rfl rfl rfl (enterOk func194 rfl rfl) rfl rfl (by simp) ⟨trivial, trivial⟩ (by repeat' first | exact trivial | refine ⟨?_, ?_⟩) (impl_partOf_ok n turns_ hx27) ?_
      rintro r0 o0 n0 ⟨rfl, rfl, rfl⟩ -
      refine awl_val hτ rfl rfl rfl ?_
      refine awl_val hτ rfl rfl rfl ?_
      refine awl_nil ?_
      refine aw_hk1 (ι := Nat × Int) (fun (v32, v33) => St.of [(3, .d (.fl .f64 v32)), (4, .d (.int .i64 v33))] [] f165.ntmps 0) (fun (v32, v33) => m_impl_PhasorOf_j1 n v32 v33 = some r) ?_ (fun hk50 => ?_)
      · rintro ⟨v32, v33⟩ h
        replace h : m_impl_PhasorOf_j1 n v32 v33 = some r := h
        unfold m_impl_PhasorOf_j1 at h
        refine aw_seq ?_
        refine aw_region ?_
        refine awl_val hτ rfl rfl rfl ?_
        refine awl_val hτ rfl rfl rfl ?_
        refine bnd_elim h fun x34 hx34 h => ?_
        refine awl_callP hτ false [] rfl rfl rfl (enterOk func195 rfl rfl) rfl rfl (by simp) ⟨trivial, trivial⟩ (by repeat' first | exact trivial | refine ⟨?_, ?_⟩) (impl_sine_ok n (farith .sub .f64 (4598175219545276416 : Nat) v32) hx34) ?_
        rintro r0 o0 n0 ⟨rfl, rfl, rfl⟩ -
        refine awl_val hτ rfl rfl rfl ?_
        refine bnd_elim h fun x35 hx35 h => ?_
        refine awl_callP hτ false [] rfl rfl rfl (enterOk func195 rfl rfl) rfl rfl (by simp) ⟨trivial, trivial⟩ (by repeat' first | exact trivial | refine ⟨?_, ?_⟩) (impl_sine_ok n v32 hx35) ?_
        rintro r0 o0 n0 ⟨rfl, rfl, rfl⟩ -
        refine awl_val hτ rfl rfl rfl ?_
        refine awl_val hτ rfl rfl rfl ?_
        refine awl_nil ?_
        refine aw_hk1 (ι := Nat × Nat) (fun (v42, v43) => St.of [(5, .d (.fl .f64 v42)), (6, .d (.fl .f64 v43))] [] f165.ntmps 0) (fun (v42, v43) => m_impl_PhasorOf_j2 n v42 v43 = some r) ?_ (fun hk46 => ?_)
        · rintro ⟨v42, v43⟩ h
          replace h : m_impl_PhasorOf_j2 n v42 v43 = some r := h
          unfold m_impl_PhasorOf_j2 at h
          refine aw_seq ?_
          refine aw_region ?_
          refine awl_val hτ rfl rfl rfl ?_
          refine bnd_elim h fun x44 hx44 h => ?_
          refine awl_val hτ (v := .d (.fl .f32 x44)) rfl rfl (conv_val hx44) ?_
          refine awl_val hτ rfl rfl rfl ?_
          refine bnd_elim h fun x45 hx45 h => ?_
          refine awl_val hτ (v := .d (.fl .f32 x45)) rfl rfl (conv_val hx45) ?_
          refine awl_val hτ rfl rfl rfl ?_
          refine awl_val hτ rfl rfl rfl ?_
          refine awl_nil ?_
          refine aw_weak (weak_ofP [] (l := [(2, .d (.cx .f32 x44 x45))]) (objs := []) rfl (by simp) rfl (by repeat' first | exact trivial | refine ⟨?_, ?_⟩) ⟨rfl, trivial, trivial⟩) ?_
          refine aw_ret ?_
          have hr := Option.some.inj h
          subst hr
          exact ret_objs (.inr rfl) [] (objs' := []) (new := []) rfl (by simp) (by simp) rfl (by repeat' first | exact trivial | refine ⟨?_, ?_⟩) rfl rfl (by repeat' first | exact trivial | refine ⟨?_, ?_⟩) (fun _ => ⟨by simp [V.flat, V.flatA, V.flatC, D.flat], flat_nil⟩) ⟨rfl, rfl, rfl⟩
        · refine aw_seq ?_
          refine aw_seq ?_
          refine aw_weak (weak_ofP [] (l := [(4, .d (.int .i64 v33)), (5, .d (.fl .f64 x34)), (6, .d (.fl .f64 x35))]) (objs := []) rfl (by simp) rfl (by repeat' first | exact trivial | refine ⟨?_, ?_⟩) ⟨rfl, trivial, rfl, trivial, rfl, trivial, trivial⟩) ?_
          refine aw_region ?_
          refine awl_val hτ rfl rfl rfl ?_
          refine awl_nil ?_
          refine aw_block ?_
          refine aw_seq ?_
          refine aw_region ?_
          refine awl_val hτ (v := .d (.bool (decide (v33 = (1 : Int))))) rfl rfl (or_ieq _ _) ?_
          refine awl_val hτ rfl rfl rfl ?_
          refine awl_nil ?_
          refine aw_cond rfl (fun hc47 => ?_) (fun hc47 => ?_)
          · have h := if_t h hc47
            refine aw_region ?_
            refine awl_val hτ rfl rfl rfl ?_
            refine awl_val hτ rfl rfl rfl ?_
            refine awl_val hτ rfl rfl rfl ?_
            refine awl_val hτ rfl rfl rfl ?_
            refine awl_val hτ rfl rfl rfl ?_
            refine awl_nil ?_
            refine aw_weak (weak_ofP [] (l := [(5, .d (.fl .f64 (farith .sub .f64 (0 : Nat) x35))), (6, .d (.fl .f64 x34))]) (objs := []) rfl (by simp) rfl (by repeat' first | exact trivial | refine ⟨?_, ?_⟩) ⟨rfl, trivial, rfl, trivial, trivial⟩) ?_
            exact hk46 ((farith .sub .f64 (0 : Nat) x35), x34) h
          · have h := if_f h hc47
            refine aw_seq ?_
            refine aw_region ?_
            refine awl_val hτ (v := .d (.bool (decide (v33 = (2 : Int))))) rfl rfl (or_ieq _ _) ?_
            refine awl_val hτ rfl rfl rfl ?_
            refine awl_nil ?_
            refine aw_cond rfl (fun hc48 => ?_) (fun hc48 => ?_)
            · have h := if_t h hc48
              refine aw_region ?_
              refine awl_val hτ rfl rfl rfl ?_
              refine awl_val hτ rfl rfl rfl ?_
              refine awl_val hτ rfl rfl rfl ?_
              refine awl_val hτ rfl rfl rfl ?_
              refine awl_val hτ rfl rfl rfl ?_
              refine awl_val hτ rfl rfl rfl ?_
              refine awl_nil ?_
              refine aw_weak (weak_ofP [] (l := [(5, .d (.fl .f64 (farith .sub .f64 (0 : Nat) x34))), (6, .d (.fl .f64 (farith .sub .f64 (0 : Nat) x35)))]) (objs := []) rfl (by simp) rfl (by repeat' first | exact trivial | refine ⟨?_, ?_⟩) ⟨rfl, trivial, rfl, trivial, trivial⟩) ?_
              exact hk46 ((farith .sub .f64 (0 : Nat) x34), (farith .sub .f64 (0 : Nat) x35)) h
            · have h := if_f h hc48
              refine aw_seq ?_
              refine aw_region ?_
              refine awl_val hτ (v := .d (.bool (decide (v33 = (3 : Int))))) rfl rfl (or_ieq _ _) ?_
              refine awl_val hτ rfl rfl rfl ?_
              refine awl_nil ?_
              refine aw_weak (weak_ofP [] (l := [(5, .d (.fl .f64 x34)), (6, .d (.fl .f64 x35)), (44, .d (.bool (decide (v33 = (3 : Int)))))]) (objs := []) rfl (by simp) rfl (by repeat' first | exact trivial | refine ⟨?_, ?_⟩) ⟨rfl, trivial, rfl, trivial, rfl, trivial, trivial⟩) ?_
              refine aw_cond rfl (fun hc49 => ?_) (fun hc49 => ?_)
              · have h := if_t h hc49
                refine aw_region ?_
                refine awl_val hτ rfl rfl rfl ?_
                refine awl_val hτ rfl rfl rfl ?_
                refine awl_val hτ rfl rfl rfl ?_
                refine awl_val hτ rfl rfl rfl ?_
                refine awl_val hτ rfl rfl rfl ?_
                refine awl_nil ?_
                refine aw_weak (weak_ofP [] (l := [(5, .d (.fl .f64 x35)), (6, .d (.fl .f64 (farith .sub .f64 (0 : Nat) x34)))]) (objs := []) rfl (by simp) rfl (by repeat' first | exact trivial | refine ⟨?_, ?_⟩) ⟨rfl, trivial, rfl, trivial, trivial⟩) ?_
                exact hk46 (x35, (farith .sub .f64 (0 : Nat) x34)) h
              · have h := if_f h hc49
                refine aw_skip ?_
                refine aw_weak (weak_ofP [] (l := [(5, .d (.fl .f64 x34)), (6, .d (.fl .f64 x35))]) (objs := []) rfl (by simp) rfl (by repeat' first | exact trivial | refine ⟨?_, ?_⟩) ⟨rfl, trivial, rfl, trivial, trivial⟩) ?_
                exact hk46 (x34, x35) h
      · refine aw_seq ?_
        refine aw_block ?_
        refine aw_loop (ι := Nat × Nat × Int) (fun (m55, v51, v52) => St.of [(3, .d (.fl .f64 v51)), (4, .d (.int .i64 v52))] [] f165.ntmps 0) (fun (m55, v51, v52) => m_impl_PhasorOf_l3 n m55 v51 v52 = some r) (fun x => x.1) (n, x27, (0 : Int)) h (weak_ofP [] (l := [(3, .d (.fl .f64 x27)), (4, .d (.int .i64 (0 : Int)))]) (objs := []) rfl (by simp) rfl (by repeat' first | exact trivial | refine ⟨?_, ?_⟩) ⟨rfl, trivial, rfl, trivial, trivial⟩) ?_
        rintro ⟨m55, v51, v52⟩ h
        replace h : m_impl_PhasorOf_l3 n m55 v51 v52 = some r := h
        rcases m55 with _ | m55
        · rw [m_impl_PhasorOf_l3] at h; cases h
        rw [m_impl_PhasorOf_l3] at h
        refine aw_seq ?_
        refine aw_seq ?_
        refine aw_region ?_
        refine awl_val hτ rfl rfl rfl ?_
        refine awl_val hτ rfl rfl rfl ?_
        refine awl_nil ?_
        refine aw_cond rfl (fun hc57 => ?_) (fun hc57 => ?_)
        · have h := if_bt h hc57
          refine aw_skip ?_
          refine aw_block ?_
          refine aw_seq ?_
          refine aw_region ?_
          refine awl_val hτ rfl rfl rfl ?_
          refine awl_val hτ rfl rfl rfl ?_
          refine awl_val hτ rfl rfl rfl ?_
          refine awl_nil ?_
          refine aw_region ?_
          refine awl_val hτ rfl rfl rfl ?_
          refine awl_val hτ rfl rfl rfl ?_
          refine awl_val hτ rfl rfl rfl ?_
          refine awl_nil ?_
          exact ⟨(m55, (farith .sub .f64 v51 (4598175219545276416 : Nat)), (w64 (v52 + (1 : Int)))), h, Nat.lt_succ_self m55, (weak_ofP [] (l := [(3, .d (.fl .f64 (farith .sub .f64 v51 (4598175219545276416 : Nat)))), (4, .d (.int .i64 (w64 (v52 + (1 : Int)))))]) (objs := []) rfl (by simp) rfl (by repeat' first | exact trivial | refine ⟨?_, ?_⟩) ⟨rfl, trivial, rfl, trivial, trivial⟩)⟩
        · have h := if_bf h hc57
          refine aw_exit ?_
          refine aw_weak (weak_ofP [] (l := [(3, .d (.fl .f64 v51)), (4, .d (.int .i64 v52))]) (objs := []) rfl (by simp) rfl (by repeat' first | exact trivial | refine ⟨?_, ?_⟩) ⟨rfl, trivial, rfl, trivial, trivial⟩) ?_
          exact hk50 (v51, v52) h
theorem impl_PhasorOf_ok (n : Nat) (turns_ : Nat) {r : Cx} (h : m_impl_PhasorOf n turns_ = some r) : ACall prog false 165 [.d (.fl .f64 turns_)] [] (fun v o new => v = .d (.cx .f32 r.re r.im) ∧ o = [] ∧ new = []) := impl_PhasorOf_ok_fr0 false n turns_ h
theorem impl_PhasorOf_ok_fr (n : Nat) (turns_ : Nat) {r : Cx} (h : m_impl_PhasorOf n turns_ = some r) : ACall prog true 165 [.d (.fl .f64 turns_)] [] (fun v o new => v = .d (.cx .f32 r.re r.im) ∧ o = [] ∧ new = []) := impl_PhasorOf_ok_fr0 true n turns_ h

def m_impl_wide (n : Nat) (x_ : Cx) : Option (Nat × Nat) :=
  (fconv .f32 .f64 x_.re).bind fun x3 =>
  (fconv .f32 .f64 x_.im).bind fun x4 =>
  some (x3, x4)
theorem impl_wide_ok_fr0 (fr : Bool) (n : Nat) (x_ : Cx) {r : Nat × Nat} (h : m_impl_wide n x_ = some r) : ACall prog fr 161 [.d (.cx .f32 x_.re x_.im)] [] (fun v o new => v = .tup [.d (.fl .f64 r.1), .d (.fl .f64 r.2)] ∧ o = [] ∧ new = []) := by
  refine acall_of_aw hτ func161 rfl (by simp) (by simp) ?_
  unfold m_impl_wide at h
  refine aw_seq ?_
  refine aw_region ?_
  refine awl_val hτ rfl rfl rfl ?_
  refine awl_val hτ rfl rfl rfl ?_
  refine awl_nil ?_
  refine aw_seq ?_
  refine aw_region ?_
  refine awl_val hτ rfl rfl rfl ?_
  refine awl_val hτ rfl rfl rfl ?_
  refine bnd_elim h fun x3 hx3 h => ?_
  refine awl_val hτ (v := .d (.fl .f64 x3)) rfl rfl (conv_val hx3) ?_
  refine awl_val hτ rfl rfl rfl ?_
  refine awl_val hτ rfl rfl rfl ?_
  refine bnd_elim h fun x4 hx4 h => ?_
  refine awl_val hτ (v := .d (.fl .f64 x4)) rfl rfl (conv_val hx4) ?_
  refine awl_val hτ rfl rfl rfl ?_
  refine awl_val hτ rfl rfl rfl ?_
  refine awl_nil ?_
  refine aw_weak (weak_ofP [] (l := [(2, .d (.fl .f64 x3)), (3, .d (.fl .f64 x4))]) (objs := []) rfl (by simp) rfl (by repeat' first | exact trivial | refine ⟨?_, ?_⟩) ⟨rfl, trivial, rfl, trivial, trivial⟩) ?_
  refine aw_ret ?_
  have hr := Option.some.inj h
  subst hr
  exact ret_objs (.inr rfl) [] (objs' := []) (new := []) rfl (by simp) (by simp) rfl (by repeat' first | exact trivial | refine ⟨?_, ?_⟩) rfl rfl (by repeat' first | exact trivial | refine ⟨?_, ?_⟩) (fun _ => ⟨by simp [V.flat, V.flatA, V.flatC, D.flat], flat_nil⟩) ⟨rfl, rfl, rfl⟩
theorem impl_wide_ok (n : Nat) (x_ : Cx) {r : Nat × Nat} (h : m_impl_wide n x_ = some r) : ACall prog false 161 [.d (.cx .f32 x_.re x_.im)] [] (fun v o new => v = .tup [.d (.fl .f64 r.1), .d (.fl .f64 r.2)] ∧ o = [] ∧ new = []) := impl_wide_ok_fr0 false n x_ h
theorem impl_wide_ok_fr (n : Nat) (x_ : Cx) {r : Nat × Nat} (h : m_impl_wide n x_ = some r) : ACall prog true 161 [.d (.cx .f32 x_.re x_.im)] [] (fun v o new => v = .tup [.d (.fl .f64 r.1), .d (.fl .f64 r.2)] ∧ o = [] ∧ new = []) := impl_wide_ok_fr0 true n x_ h

def m_impl_MulComplex (n : Nat) (x_ : Cx) (y_ : Cx) : Option Cx :=
  (m_impl_wide n x_).bind fun x5 =>
  (m_impl_wide n y_).bind fun x6 =>
  (fconv .f64 .f32 (farith .sub .f64 (farith .mul .f64 x5.1 x6.1) (farith .mul .f64 x5.2 x6.2))).bind fun x7 =>
  (fconv .f64 .f32 (farith .add .f64 (farith .mul .f64 x5.1 x6.2) (farith .mul .f64 x5.2 x6.1))).bind fun x8 =>
  some (Cx.mk x7 x8)
theorem impl_MulComplex_ok_fr0 (fr : Bool) (n : Nat) (x_ : Cx) (y_ : Cx) {r : Cx} (h : m_impl_MulComplex n x_ y_ = some r) : ACall prog fr 123 [.d (.cx .f32 x_.re x_.im), .d (.cx .f32 y_.re y_.im)] [] (fun v o new => v = .d (.cx .f32 r.re r.im) ∧ o = [] ∧ new = []) := by
  refine acall_of_aw hτ func123 rfl (by simp) (by simp) ?_
  unfold m_impl_MulComplex at h
  refine aw_seq ?_
  refine aw_region ?_
  refine awl_val hτ rfl rfl rfl ?_
  refine awl_nil ?_
  refine aw_seq ?_
  refine aw_region ?_
  refine awl_val hτ rfl rfl rfl ?_
  refine bnd_elim h fun x5 hx5 h => ?_
  refine awl_callP hτ false [] rfl rfl rfl (enterOk func161 rfl rfl) rfl rfl (by simp) ⟨trivial, trivial⟩ (by repeat' first | exact trivial | refine ⟨?_, ?_⟩) (impl_wide_ok n x_ hx5) ?_
  rintro r0 o0 n0 ⟨rfl, rfl, rfl⟩ -
  refine awl_val hτ rfl rfl rfl ?_
  refine awl_val hτ rfl rfl rfl ?_
  refine awl_val hτ rfl rfl rfl ?_
  refine awl_val hτ rfl rfl rfl ?_
  refine awl_val hτ rfl rfl rfl ?_
  refine awl_nil ?_
  refine aw_seq ?_
  refine aw_weak (weak_ofP [] (l := [(1, .d (.cx .f32 y_.re y_.im)), (5, .d (.fl .f64 x5.1)), (6, .d (.fl .f64 x5.2))]) (objs := []) rfl (by simp) rfl (by repeat' first | exact trivial | refine ⟨?_, ?_⟩) ⟨rfl, trivial, rfl, trivial, rfl, trivial, trivial⟩) ?_
  refine aw_region ?_
  refine awl_val hτ rfl rfl rfl ?_
  refine bnd_elim h fun x6 hx6 h => ?_
  refine awl_callP hτ false [] rfl rfl rfl (enterOk func161 rfl rfl) rfl rfl (by simp) ⟨trivial, trivial⟩ (by repeat' first | exact trivial | refine ⟨?_, ?_⟩) (impl_wide_ok n y_ hx6) ?_
  rintro r0 o0 n0 ⟨rfl, rfl, rfl⟩ -
  refine awl_val hτ rfl rfl rfl ?_
  refine awl_val hτ rfl rfl rfl ?_
  refine awl_val hτ rfl rfl rfl ?_
  refine awl_val hτ rfl rfl rfl ?_
  refine awl_val hτ rfl rfl rfl ?_
  refine awl_nil ?_
  refine aw_seq ?_
  refine aw_weak (weak_ofP [] (l := [(5, .d (.fl .f64 x5.1)), (6, .d (.fl .f64 x5.2)), (7, .d (.fl .f64 x6.1)), (8, .d (.fl .f64 x6.2))]) (objs := []) rfl (by simp) rfl (by repeat' first | exact trivial | refine ⟨?_, ?_⟩) ⟨rfl, trivial, rfl, trivial, rfl, trivial, rfl, trivial, trivial⟩) ?_
  refine aw_region ?_
  refine awl_val hτ rfl rfl rfl ?_
  refine awl_val hτ rfl rfl rfl ?_
  refine awl_val hτ rfl rfl rfl ?_
  refine awl_val hτ rfl rfl rfl ?_
  refine awl_val hτ rfl rfl rfl ?_
  refine awl_val hτ rfl rfl rfl ?_
  refine awl_val hτ rfl rfl rfl ?_
  refine bnd_elim h fun x7 hx7 h => ?_
  refine awl_val hτ (v := .d (.fl .f32 x7)) rfl rfl (conv_val hx7) ?_
  refine awl_val hτ rfl rfl rfl ?_
  refine awl_val hτ rfl rfl rfl ?_
  refine awl_val hτ rfl rfl rfl ?_
  refine awl_val hτ rfl rfl rfl ?_
  refine awl_val hτ rfl rfl rfl ?_
  refine awl_val hτ rfl rfl rfl ?_
  refine awl_val hτ rfl rfl rfl ?_
  refine bnd_elim h fun x8 hx8 h => ?_
  refine awl_val hτ (v := .d (.fl .f32 x8)) rfl rfl (conv_val hx8) ?_
  refine awl_val hτ rfl rfl rfl ?_
  refine awl_val hτ rfl rfl rfl ?_
  refine awl_nil ?_
  refine aw_weak (weak_ofP [] (l := [(4, .d (.cx .f32 x7 x8))]) (objs := []) rfl (by simp) rfl (by repeat' first | exact trivial | refine ⟨?_, ?_⟩) ⟨rfl, trivial, trivial⟩) ?_
  refine aw_ret ?_
  have hr := Option.some.inj h
  subst hr
  exact ret_objs (.inr rfl) [] (objs' := []) (new := []) rfl (by simp) (by simp) rfl (by repeat' first | exact trivial | refine ⟨?_, ?_⟩) rfl rfl (by repeat' first | exact trivial | refine ⟨?_, ?_⟩) (fun _ => ⟨by simp [V.flat, V.flatA, V.flatC, D.flat], flat_nil⟩) ⟨rfl, rfl, rfl⟩
theorem impl_MulComplex_ok (n : Nat) (x_ : Cx) (y_ : Cx) {r : Cx} (h : m_impl_MulComplex n x_ y_ = some r) : ACall prog false 123 [.d (.cx .f32 x_.re x_.im), .d (.cx .f32 y_.re y_.im)] [] (fun v o new => v = .d (.cx .f32 r.re r.im) ∧ o = [] ∧ new = []) := impl_MulComplex_ok_fr0 false n x_ y_ h
theorem impl_MulComplex_ok_fr (n : Nat) (x_ : Cx) (y_ : Cx) {r : Cx} (h : m_impl_MulComplex n x_ y_ = some r) : ACall prog true 123 [.d (.cx .f32 x_.re x_.im), .d (.cx .f32 y_.re y_.im)] [] (fun v o new => v = .d (.cx .f32 r.re r.im) ∧ o = [] ∧ new = []) := impl_MulComplex_ok_fr0 true n x_ y_ h

def m_impl_EvenPhases (n : Nat) (x_ : Cx) : Option SPhases :=
  (m_impl_PhasorOf n (13823048456275842389 : Nat)).bind fun x5 =>
  (m_impl_MulComplex n x_ x5).bind fun x6 =>
  (m_impl_PhasorOf n (4599676419421066581 : Nat)).bind fun x7 =>
  (m_impl_MulComplex n x_ x7).bind fun x8 =>
  some (SPhases.mk x_ x6 x8)
theorem impl_EvenPhases_ok_fr0 (fr : Bool) (n : Nat) (x_ : Cx) {r : SPhases} (h : m_impl_EvenPhases n x_ = some r) : ACall prog fr 110 [.d (.cx .f32 x_.re x_.im)] [] (fun v o new => v = .agg [.d (.cx .f32 r.A.re r.A.im), .d (.cx .f32 r.B.re r.B.im), .d (.cx .f32 r.C.re r.C.im)] ∧ o = [] ∧ new = []) := by
  refine acall_of_aw hτ func110 rfl (by simp) (by simp) ?_
  unfold m_impl_EvenPhases at h
  refine aw_seq ?_
  refine aw_region ?_
  refine awl_valH hτ rfl rfl rfl ?_
  refine awl_nil ?_
  refine aw_seq ?_
  refine aw_region ?_
  refine awl_val hτ rfl rfl rfl ?_
  refine awl_val hτ rfl rfl rfl ?_
  refine bnd_elim h fun x5 hx5 h => ?_
  refine awl_callP hτ false [] rfl rfl rfl (enterOk func165 rfl rfl) rfl rfl (by simp) ⟨trivial, trivial⟩ (by repeat' first | exact trivial | refine ⟨?_, ?_⟩) (impl_PhasorOf_ok n (13823048456275842389 : Nat) hx5) ?_
  rintro r0 o0 n0 ⟨rfl, rfl, rfl⟩ -
  refine bnd_elim h fun x6 hx6 h => ?_
  refine awl_callP hτ false [] rfl rfl rfl (enterOk func123 rfl rfl) rfl rfl (by simp) ⟨trivial, trivial, trivial⟩ (by repeat' first | exact trivial | refine ⟨?_, ?_⟩) (impl_MulComplex_ok n x_ x5 hx6) ?_
  rintro r0 o0 n0 ⟨rfl, rfl, rfl⟩ -
  refine awl_val hτ rfl rfl rfl ?_
  refine bnd_elim h fun x7 hx7 h => ?_
  refine awl_callP hτ false [] rfl rfl rfl (enterOk func165 rfl rfl) rfl rfl (by simp) ⟨trivial, trivial⟩ (by repeat' first | exact trivial | refine ⟨?_, ?_⟩) (impl_PhasorOf_ok n (4599676419421066581 : Nat) hx7) ?_
  rintro r0 o0 n0 ⟨rfl, rfl, rfl⟩ -
  refine bnd_elim h fun x8 hx8 h => ?_
  refine awl_callP hτ false [] rfl rfl rfl (enterOk func123 rfl rfl) rfl rfl (by simp) ⟨trivial, trivial, trivial⟩ (by repeat' first | exact trivial | refine ⟨?_, ?_⟩) (impl_MulComplex_ok n x_ x7 hx8) ?_
  rintro r0 o0 n0 ⟨rfl, rfl, rfl⟩ -
  refine awl_val hτ rfl rfl rfl ?_
  refine awl_valH hτ rfl rfl rfl ?_
  refine awl_nil ?_
  refine aw_weak (weak_ofP [0] (l := [(2, .ptr 0 0)]) (objs := [.box [.d (.cx .f32 x_.re x_.im), .d (.cx .f32 x6.re x6.im), .d (.cx .f32 x8.re x8.im)]]) rfl (by simp) rfl (by repeat' first | exact trivial | refine ⟨?_, ?_⟩) ⟨rfl, trivial, trivial⟩) ?_
  refine aw_ret ?_
  have hr := Option.some.inj h
  subst hr
  exact ret_objs (.inr rfl) [] (objs' := []) (new := []) rfl (by simp) (by simp) rfl (by repeat' first | exact trivial | refine ⟨?_, ?_⟩) rfl rfl (by repeat' first | exact trivial | refine ⟨?_, ?_⟩) (fun _ => ⟨by simp [V.flat, V.flatA, V.flatC, D.flat], flat_nil⟩) ⟨rfl, rfl, rfl⟩
theorem impl_EvenPhases_ok (n : Nat) (x_ : Cx) {r : SPhases} (h : m_impl_EvenPhases n x_ = some r) : ACall prog false 110 [.d (.cx .f32 x_.re x_.im)] [] (fun v o new => v = .agg [.d (.cx .f32 r.A.re r.A.im), .d (.cx .f32 r.B.re r.B.im), .d (.cx .f32 r.C.re r.C.im)] ∧ o = [] ∧ new = []) := impl_EvenPhases_ok_fr0 false n x_ h
theorem impl_EvenPhases_ok_fr (n : Nat) (x_ : Cx) {r : SPhases} (h : m_impl_EvenPhases n x_ = some r) : ACall prog true 110 [.d (.cx .f32 x_.re x_.im)] [] (fun v o new => v = .agg [.d (.cx .f32 r.A.re r.A.im), .d (.cx .f32 r.B.re r.B.im), .d (.cx .f32 r.C.re r.C.im)] ∧ o = [] ∧ new = []) := impl_EvenPhases_ok_fr0 true n x_ h

def m_impl_NewDesk (n : Nat) : Option SDesk :=
  (m_impl_EvenPhases n (Cx.mk (1090519040 : Nat) (0 : Nat))).bind fun x2 =>
  some (SDesk.mk (SFeeder.mk x2 [(SBus.mk (-1 : Int) (Cx.mk (0 : Nat) (0 : Nat)) (Cx.mk (0 : Nat) (0 : Nat)) (0 : Int) (SPhases.mk (Cx.mk (0 : Nat) (0 : Nat)) (Cx.mk (0 : Nat) (0 : Nat)) (Cx.mk (0 : Nat) (0 : Nat))) (0 : Int))]) ([] : List STap) ([] : List SOutage))
theorem impl_NewDesk_ok_fr0 (fr : Bool) (n : Nat) {r : SDesk} (h : m_impl_NewDesk n = some r) : ACall prog fr 47 [] [] (fun v o new => v = .agg [.d (.cx .f32 r.Feeder.Source.A.re r.Feeder.Source.A.im), .d (.cx .f32 r.Feeder.Source.B.re r.Feeder.Source.B.im), .d (.cx .f32 r.Feeder.Source.C.re r.Feeder.Source.C.im), .row 0 r.Feeder.Buses.length 0 r.Feeder.Buses.length, .row 1 r.Taps.length 0 r.Taps.length, .row 2 r.List.length 0 r.List.length] ∧ o = [] ∧ new = [.row 8 (r.Feeder.Buses.map eSBus), .row 5 (r.Taps.map eSTap), .row 3 (r.List.map eSOutage)]) := by
  refine acall_of_aw hτ func47 rfl (by simp) (by simp) ?_
  unfold m_impl_NewDesk at h
  refine aw_seq ?_
  refine aw_region ?_
  refine awl_valH hτ rfl rfl rfl ?_
  refine awl_nil ?_
  refine aw_seq ?_
  refine aw_region ?_
  refine bnd_elim h fun x2 hx2 h => ?_
  refine awl_callP hτ false [] rfl rfl rfl (enterOk func110 rfl rfl) rfl rfl (by simp) ⟨trivial, trivial⟩ (by repeat' first | exact trivial | refine ⟨?_, ?_⟩) (impl_EvenPhases_ok n (Cx.mk (1090519040 : Nat) (0 : Nat)) hx2) ?_
  rintro r0 o0 n0 ⟨rfl, rfl, rfl⟩ -
  refine awl_val hτ rfl rfl rfl ?_
  refine awl_valH hτ rfl rfl rfl ?_
  refine awl_val hτ rfl rfl rfl ?_
  refine awl_val hτ rfl rfl rfl ?_
  refine awl_valH hτ rfl rfl rfl ?_
  refine awl_nil ?_
  refine aw_weak (weak_ofP [0, 1] (l := [(0, .ptr 0 0)]) (objs := [.box [.d (.cx .f32 x2.A.re x2.A.im), .d (.cx .f32 x2.B.re x2.B.im), .d (.cx .f32 x2.C.re x2.C.im), .row 1 ([(SBus.mk (-1 : Int) (Cx.mk (0 : Nat) (0 : Nat)) (Cx.mk (0 : Nat) (0 : Nat)) (0 : Int) (SPhases.mk (Cx.mk (0 : Nat) (0 : Nat)) (Cx.mk (0 : Nat) (0 : Nat)) (Cx.mk (0 : Nat) (0 : Nat))) (0 : Int))].length) 0 ([(SBus.mk (-1 : Int) (Cx.mk (0 : Nat) (0 : Nat)) (Cx.mk (0 : Nat) (0 : Nat)) (0 : Int) (SPhases.mk (Cx.mk (0 : Nat) (0 : Nat)) (Cx.mk (0 : Nat) (0 : Nat)) (Cx.mk (0 : Nat) (0 : Nat))) (0 : Int))].length), .d (.nils), .d (.nils)], .row 8 ([(SBus.mk (-1 : Int) (Cx.mk (0 : Nat) (0 : Nat)) (Cx.mk (0 : Nat) (0 : Nat)) (0 : Int) (SPhases.mk (Cx.mk (0 : Nat) (0 : Nat)) (Cx.mk (0 : Nat) (0 : Nat)) (Cx.mk (0 : Nat) (0 : Nat))) (0 : Int))].map eSBus)]) rfl (by simp) rfl (by repeat' first | exact trivial | refine ⟨?_, ?_⟩) ⟨rfl, trivial, trivial⟩) ?_
  refine aw_weak (weak_relax [5, 3] (l' := [(0, .ptr 0 0)]) (objs' := [.box [.d (.cx .f32 x2.A.re x2.A.im), .d (.cx .f32 x2.B.re x2.B.im), .d (.cx .f32 x2.C.re x2.C.im), .row 1 ([(SBus.mk (-1 : Int) (Cx.mk (0 : Nat) (0 : Nat)) (Cx.mk (0 : Nat) (0 : Nat)) (0 : Int) (SPhases.mk (Cx.mk (0 : Nat) (0 : Nat)) (Cx.mk (0 : Nat) (0 : Nat)) (Cx.mk (0 : Nat) (0 : Nat))) (0 : Int))].length) 0 ([(SBus.mk (-1 : Int) (Cx.mk (0 : Nat) (0 : Nat)) (Cx.mk (0 : Nat) (0 : Nat)) (0 : Int) (SPhases.mk (Cx.mk (0 : Nat) (0 : Nat)) (Cx.mk (0 : Nat) (0 : Nat)) (Cx.mk (0 : Nat) (0 : Nat))) (0 : Int))].length), .row 2 (([] : List STap).length) 0 (([] : List STap).length), .row 3 (([] : List SOutage).length) 0 (([] : List SOutage).length)], .row 8 ([(SBus.mk (-1 : Int) (Cx.mk (0 : Nat) (0 : Nat)) (Cx.mk (0 : Nat) (0 : Nat)) (0 : Int) (SPhases.mk (Cx.mk (0 : Nat) (0 : Nat)) (Cx.mk (0 : Nat) (0 : Nat)) (Cx.mk (0 : Nat) (0 : Nat))) (0 : Int))].map eSBus)]) (.cons (.c (.refl _)) .nil) (.cons (.box (.cons (.refl _) (.cons (.refl _) (.cons (.refl _) (.cons (.refl _) (.cons (.ghost ⟨Nat.le_of_ble_eq_true rfl, Nat.le_of_ble_eq_true rfl⟩) (.cons (.ghost ⟨Nat.le_of_ble_eq_true rfl, Nat.le_of_ble_eq_true rfl⟩) .nil))))))) (.cons (.refl _) .nil))) ?_
  refine aw_ret ?_
  have hr := Option.some.inj h
  subst hr
  exact ret_objs (.inr rfl) [1, 2, 3] (objs' := []) (new := [.row 8 ([(SBus.mk (-1 : Int) (Cx.mk (0 : Nat) (0 : Nat)) (Cx.mk (0 : Nat) (0 : Nat)) (0 : Int) (SPhases.mk (Cx.mk (0 : Nat) (0 : Nat)) (Cx.mk (0 : Nat) (0 : Nat)) (Cx.mk (0 : Nat) (0 : Nat))) (0 : Int))].map eSBus), .row 5 (([] : List STap).map eSTap), .row 3 (([] : List SOutage).map eSOutage)]) rfl (by simp) (by simp) rfl (by repeat' first | exact trivial | refine ⟨?_, ?_⟩) rfl rfl (by repeat' first | exact trivial | refine ⟨?_, ?_⟩) (fun _ => ⟨by simp [V.flat, V.flatA, V.flatC, D.flat], (flat_cons (flat_row eSBus_flat _) (flat_cons (flat_row eSTap_flat _) (flat_cons (flat_row eSOutage_flat _) flat_nil)))⟩) ⟨rfl, rfl, rfl⟩
theorem impl_NewDesk_ok (n : Nat) {r : SDesk} (h : m_impl_NewDesk n = some r) : ACall prog false 47 [] [] (fun v o new => v = .agg [.d (.cx .f32 r.Feeder.Source.A.re r.Feeder.Source.A.im), .d (.cx .f32 r.Feeder.Source.B.re r.Feeder.Source.B.im), .d (.cx .f32 r.Feeder.Source.C.re r.Feeder.Source.C.im), .row 0 r.Feeder.Buses.length 0 r.Feeder.Buses.length, .row 1 r.Taps.length 0 r.Taps.length, .row 2 r.List.length 0 r.List.length] ∧ o = [] ∧ new = [.row 8 (r.Feeder.Buses.map eSBus), .row 5 (r.Taps.map eSTap), .row 3 (r.List.map eSOutage)]) := impl_NewDesk_ok_fr0 false n h
theorem impl_NewDesk_ok_fr (n : Nat) {r : SDesk} (h : m_impl_NewDesk n = some r) : ACall prog true 47 [] [] (fun v o new => v = .agg [.d (.cx .f32 r.Feeder.Source.A.re r.Feeder.Source.A.im), .d (.cx .f32 r.Feeder.Source.B.re r.Feeder.Source.B.im), .d (.cx .f32 r.Feeder.Source.C.re r.Feeder.Source.C.im), .row 0 r.Feeder.Buses.length 0 r.Feeder.Buses.length, .row 1 r.Taps.length 0 r.Taps.length, .row 2 r.List.length 0 r.List.length] ∧ o = [] ∧ new = [.row 8 (r.Feeder.Buses.map eSBus), .row 5 (r.Taps.map eSTap), .row 3 (r.List.map eSOutage)]) := impl_NewDesk_ok_fr0 true n h

def m_laws_sameFloat_j2 (n : Nat) (a_ : Nat) (b_ : Nat) : Option Bool :=
  some (fcmp .eql .f64 a_ b_)
def m_laws_sameFloat_j3 (n : Nat) (a_ : Nat) (b_ : Nat) (v16 : Bool) : Option Bool :=
  if v16 = true then
    some ((fcmp .gtr .f64 (farith .quo .f64 (4607182418800017408 : Nat) a_) (0 : Nat)) == (fcmp .gtr .f64 (farith .quo .f64 (4607182418800017408 : Nat) b_) (0 : Nat)))
  else
    m_laws_sameFloat_j2 n a_ b_
def m_laws_sameFloat_j1 (n : Nat) (a_ : Nat) (b_ : Nat) : Option Bool :=
  if (fcmp .eql .f64 a_ (0 : Nat)) = true then
    m_laws_sameFloat_j3 n a_ b_ (fcmp .eql .f64 b_ (0 : Nat))
  else
    m_laws_sameFloat_j3 n a_ b_ false
def m_laws_sameFloat_j4 (n : Nat) (a_ : Nat) (b_ : Nat) (v23 : Bool) : Option Bool :=
  if v23 = true then
    if (fcmp .neq .f64 a_ a_) = true then
      some (fcmp .neq .f64 b_ b_)
    else
      some false
  else
    m_laws_sameFloat_j1 n a_ b_
def m_laws_sameFloat (n : Nat) (a_ : Nat) (b_ : Nat) : Option Bool :=
  if (fcmp .neq .f64 a_ a_) = true then
    m_laws_sameFloat_j4 n a_ b_ true
  else
    m_laws_sameFloat_j4 n a_ b_ (fcmp .neq .f64 b_ b_)
theorem laws_sameFloat_ok_fr0 (fr : Bool) (n : Nat) (a_ : Nat) (b_ : Nat) {r : Bool} (h : m_laws_sameFloat n a_ b_ = some r) : ACall prog fr 198 [.d (.fl .f64 a_), .d (.fl .f64 b_)] [] (fun v o new => v = .d (.bool r) ∧ o = [] ∧ new = []) := by
  refine acall_of_aw hτ func198 rfl (by simp) (by simp) ?_
  unfold m_laws_sameFloat at h
  refine aw_seq ?_
  refine aw_region ?_
  refine awl_val hτ rfl rfl rfl ?_
  refine awl_nil ?_
  refine aw_hk1 (ι := Unit) (fun _ => St.of [(0, .d (.fl .f64 a_)), (1, .d (.fl .f64 b_))] [] f198.ntmps 0) (fun _ => m_laws_sameFloat_j1 n a_ b_ = some r) ?_ (fun hk20 => ?_)
  · rintro ⟨⟩ h
    replace h : m_laws_sameFloat_j1 n a_ b_ = some r := h
    unfold m_laws_sameFloat_j1 at h
    refine aw_hk1 (ι := Unit) (fun _ => St.of [(0, .d (.fl .f64 a_)), (1, .d (.fl .f64 b_))] [] f198.ntmps 0) (fun _ => m_laws_sameFloat_j2 n a_ b_ = some r) ?_ (fun hk13 => ?_)
    · rintro ⟨⟩ h
      replace h : m_laws_sameFloat_j2 n a_ b_ = some r := h
      unfold m_laws_sameFloat_j2 at h
      refine aw_seq ?_
      refine aw_region ?_
      refine awl_val hτ rfl rfl rfl ?_
      refine awl_val hτ rfl rfl rfl ?_
      refine awl_val hτ rfl rfl rfl ?_
      refine awl_val hτ rfl rfl rfl ?_
      refine awl_nil ?_
      refine aw_weak (weak_ofP [] (l := [(4, .d (.bool (fcmp .eql .f64 a_ b_)))]) (objs := []) rfl (by simp) rfl (by repeat' first | exact trivial | refine ⟨?_, ?_⟩) ⟨rfl, trivial, trivial⟩) ?_
      refine aw_ret ?_
      have hr := Option.some.inj h
      subst hr
      exact ret_objs (.inr rfl) [] (objs' := []) (new := []) rfl (by simp) (by simp) rfl (by repeat' first | exact trivial | refine ⟨?_, ?_⟩) rfl rfl (by repeat' first | exact trivial | refine ⟨?_, ?_⟩) (fun _ => ⟨by simp [V.flat, V.flatA, V.flatC, D.flat], flat_nil⟩) ⟨rfl, rfl, rfl⟩
    · refine aw_seq ?_
      refine aw_hk1 (ι := Bool) (fun v16 => St.of [(0, .d (.fl .f64 a_)), (1, .d (.fl .f64 b_)), (26, .d (.bool v16))] [] f198.ntmps 0) (fun v16 => m_laws_sameFloat_j3 n a_ b_ v16 = some r) ?_ (fun hk18 => ?_)
      · rintro v16 h
        replace h : m_laws_sameFloat_j3 n a_ b_ v16 = some r := h
        unfold m_laws_sameFloat_j3 at h
        refine aw_cond rfl (fun hc17 => ?_) (fun hc17 => ?_)
        · have h := if_bt h hc17
          refine aw_seq ?_
          refine aw_region ?_
          refine awl_val hτ rfl rfl rfl ?_
          refine awl_val hτ rfl rfl rfl ?_
          refine awl_val hτ rfl rfl rfl ?_
          refine awl_val hτ rfl rfl rfl ?_
          refine awl_val hτ rfl rfl rfl ?_
          refine awl_val hτ rfl rfl rfl ?_
          refine awl_val hτ rfl rfl rfl ?_
          refine awl_val hτ rfl rfl rfl ?_
          refine awl_nil ?_
          refine aw_weak (weak_ofP [] (l := [(4, .d (.bool ((fcmp .gtr .f64 (farith .quo .f64 (4607182418800017408 : Nat) a_) (0 : Nat)) == (fcmp .gtr .f64 (farith .quo .f64 (4607182418800017408 : Nat) b_) (0 : Nat)))))]) (objs := []) rfl (by simp) rfl (by repeat' first | exact trivial | refine ⟨?_, ?_⟩) ⟨rfl, trivial, trivial⟩) ?_
          refine aw_ret ?_
          have hr := Option.some.inj h
          subst hr
          exact ret_objs (.inr rfl) [] (objs' := []) (new := []) rfl (by simp) (by simp) rfl (by repeat' first | exact trivial | refine ⟨?_, ?_⟩) rfl rfl (by repeat' first | exact trivial | refine ⟨?_, ?_⟩) (fun _ => ⟨by simp [V.flat, V.flatA, V.flatC, D.flat], flat_nil⟩) ⟨rfl, rfl, rfl⟩
        · have h := if_bf h hc17
          refine aw_skip ?_
          refine aw_weak (weak_ofP [] (l := [(0, .d (.fl .f64 a_)), (1, .d (.fl .f64 b_))]) (objs := []) rfl (by simp) rfl (by repeat' first | exact trivial | refine ⟨?_, ?_⟩) ⟨rfl, trivial, rfl, trivial, trivial⟩) ?_
          exact hk13 () h
      · refine aw_seq ?_
        refine aw_region ?_
        refine awl_val hτ rfl rfl rfl ?_
        refine awl_val hτ rfl rfl rfl ?_
        refine awl_val hτ rfl rfl rfl ?_
        refine awl_split 23 rfl (fun hb19 => ?_) (fun hb19 => ?_)
        · have h := if_bt h hb19
          refine awl_val hτ rfl rfl rfl ?_
          refine awl_val hτ rfl rfl rfl ?_
          refine awl_val hτ rfl rfl rfl ?_
          refine awl_nil ?_
          refine aw_weak (weak_ofP [] (l := [(0, .d (.fl .f64 a_)), (1, .d (.fl .f64 b_)), (26, .d (.bool (fcmp .eql .f64 b_ (0 : Nat))))]) (objs := []) rfl (by simp) rfl (by repeat' first | exact trivial | refine ⟨?_, ?_⟩) ⟨rfl, trivial, rfl, trivial, rfl, trivial, trivial⟩) ?_
          exact hk18 (fcmp .eql .f64 b_ (0 : Nat)) h
        · have h := if_bf h hb19
          refine awl_skip rfl rfl ?_
          refine awl_skip rfl rfl ?_
          refine awl_val hτ rfl rfl rfl ?_
          refine awl_nil ?_
          refine aw_weak (weak_ofP [] (l := [(0, .d (.fl .f64 a_)), (1, .d (.fl .f64 b_)), (26, .d (.bool false))]) (objs := []) rfl (by simp) rfl (by repeat' first | exact trivial | refine ⟨?_, ?_⟩) ⟨rfl, trivial, rfl, trivial, rfl, trivial, trivial⟩) ?_
          exact hk18 false h
  · refine aw_seq ?_
    refine aw_hk1 (ι := Bool) (fun v23 => St.of [(0, .d (.fl .f64 a_)), (1, .d (.fl .f64 b_)), (12, .d (.bool v23))] [] f198.ntmps 0) (fun v23 => m_laws_sameFloat_j4 n a_ b_ v23 = some r) ?_ (fun hk26 => ?_)
    · rintro v23 h
      replace h : m_laws_sameFloat_j4 n a_ b_ v23 = some r := h
      unfold m_laws_sameFloat_j4 at h
      refine aw_cond rfl (fun hc24 => ?_) (fun hc24 => ?_)
      · have h := if_bt h hc24
        refine aw_seq ?_
        refine aw_region ?_
        refine awl_val hτ rfl rfl rfl ?_
        refine awl_val hτ rfl rfl rfl ?_
        refine awl_val hτ rfl rfl rfl ?_
        refine awl_val hτ rfl rfl rfl ?_
        refine awl_split 16 rfl (fun hb25 => ?_) (fun hb25 => ?_)
        · have h := if_bt h hb25
          refine awl_val hτ rfl rfl rfl ?_
          refine awl_val hτ rfl rfl rfl ?_
          refine awl_val hτ rfl rfl rfl ?_
          refine awl_val hτ rfl rfl rfl ?_
          refine awl_val hτ rfl rfl rfl ?_
          refine awl_nil ?_
          refine aw_weak (weak_ofP [] (l := [(4, .d (.bool (fcmp .neq .f64 b_ b_)))]) (objs := []) rfl (by simp) rfl (by repeat' first | exact trivial | refine ⟨?_, ?_⟩) ⟨rfl, trivial, trivial⟩) ?_
          refine aw_ret ?_
          have hr := Option.some.inj h
          subst hr
          exact ret_objs (.inr rfl) [] (objs' := []) (new := []) rfl (by simp) (by simp) rfl (by repeat' first | exact trivial | refine ⟨?_, ?_⟩) rfl rfl (by repeat' first | exact trivial | refine ⟨?_, ?_⟩) (fun _ => ⟨by simp [V.flat, V.flatA, V.flatC, D.flat], flat_nil⟩) ⟨rfl, rfl, rfl⟩
        · have h := if_bf h hb25
          refine awl_skip rfl rfl ?_
          refine awl_skip rfl rfl ?_
          refine awl_skip rfl rfl ?_
          refine awl_val hτ rfl rfl rfl ?_
          refine awl_val hτ rfl rfl rfl ?_
          refine awl_nil ?_
          refine aw_weak (weak_ofP [] (l := [(4, .d (.bool false))]) (objs := []) rfl (by simp) rfl (by repeat' first | exact trivial | refine ⟨?_, ?_⟩) ⟨rfl, trivial, trivial⟩) ?_
          refine aw_ret ?_
          have hr := Option.some.inj h
          subst hr
          exact ret_objs (.inr rfl) [] (objs' := []) (new := []) rfl (by simp) (by simp) rfl (by repeat' first | exact trivial | refine ⟨?_, ?_⟩) rfl rfl (by repeat' first | exact trivial | refine ⟨?_, ?_⟩) (fun _ => ⟨by simp [V.flat, V.flatA, V.flatC, D.flat], flat_nil⟩) ⟨rfl, rfl, rfl⟩
      · have h := if_bf h hc24
        refine aw_skip ?_
        refine aw_weak (weak_ofP [] (l := [(0, .d (.fl .f64 a_)), (1, .d (.fl .f64 b_))]) (objs := []) rfl (by simp) rfl (by repeat' first | exact trivial | refine ⟨?_, ?_⟩) ⟨rfl, trivial, rfl, trivial, trivial⟩) ?_
        exact hk20 () h
    · refine aw_seq ?_
      refine aw_region ?_
      refine awl_val hτ rfl rfl rfl ?_
      refine awl_val hτ rfl rfl rfl ?_
      refine awl_val hτ rfl rfl rfl ?_
      refine awl_val hτ rfl rfl rfl ?_
      refine awl_split 8 rfl (fun hb27 => ?_) (fun hb27 => ?_)
      · have h := if_bt h hb27
        refine awl_skip rfl rfl ?_
        refine awl_skip rfl rfl ?_
        refine awl_skip rfl rfl ?_
        refine awl_val hτ rfl rfl rfl ?_
        refine awl_nil ?_
        refine aw_weak (weak_ofP [] (l := [(0, .d (.fl .f64 a_)), (1, .d (.fl .f64 b_)), (12, .d (.bool true))]) (objs := []) rfl (by simp) rfl (by repeat' first | exact trivial | refine ⟨?_, ?_⟩) ⟨rfl, trivial, rfl, trivial, rfl, trivial, trivial⟩) ?_
        exact hk26 true h
      · have h := if_bf h hb27
        refine awl_val hτ rfl rfl rfl ?_
        refine awl_val hτ rfl rfl rfl ?_
        refine awl_val hτ rfl rfl rfl ?_
        refine awl_val hτ rfl rfl rfl ?_
        refine awl_nil ?_
        refine aw_weak (weak_ofP [] (l := [(0, .d (.fl .f64 a_)), (1, .d (.fl .f64 b_)), (12, .d (.bool (fcmp .neq .f64 b_ b_)))]) (objs := []) rfl (by simp) rfl (by repeat' first | exact trivial | refine ⟨?_, ?_⟩) ⟨rfl, trivial, rfl, trivial, rfl, trivial, trivial⟩) ?_
        exact hk26 (fcmp .neq .f64 b_ b_) h
theorem laws_sameFloat_ok (n : Nat) (a_ : Nat) (b_ : Nat) {r : Bool} (h : m_laws_sameFloat n a_ b_ = some r) : ACall prog false 198 [.d (.fl .f64 a_), .d (.fl .f64 b_)] [] (fun v o new => v = .d (.bool r) ∧ o = [] ∧ new = []) := laws_sameFloat_ok_fr0 false n a_ b_ h
theorem laws_sameFloat_ok_fr (n : Nat) (a_ : Nat) (b_ : Nat) {r : Bool} (h : m_laws_sameFloat n a_ b_ = some r) : ACall prog true 198 [.d (.fl .f64 a_), .d (.fl .f64 b_)] [] (fun v o new => v = .d (.bool r) ∧ o = [] ∧ new = []) := laws_sameFloat_ok_fr0 true n a_ b_ h

def m_laws_sameComplex (n : Nat) (a_ : Cx) (b_ : Cx) : Option Bool :=
  (m_laws_sameFloat n a_.re b_.re).bind fun x5 =>
  if x5 = true then
    (m_laws_sameFloat n a_.im b_.im).bind fun x7 =>
    some x7
  else
    some false
theorem laws_sameComplex_ok_fr0 (fr : Bool) (n : Nat) (a_ : Cx) (b_ : Cx) {r : Bool} (h : m_laws_sameComplex n a_ b_ = some r) : ACall prog fr 196 [.d (.cx .f64 a_.re a_.im), .d (.cx .f64 b_.re b_.im)] [] (fun v o new => v = .d (.bool r) ∧ o = [] ∧ new = []) := by
  refine acall_of_aw hτ func196 rfl (by simp) (by simp) ?_
  unfold m_laws_sameComplex at h
  refine aw_seq ?_
  refine aw_region ?_
  refine awl_val hτ rfl rfl rfl ?_
  refine awl_nil ?_
  refine aw_seq ?_
  refine aw_region ?_
  refine awl_val hτ rfl rfl rfl ?_
  refine awl_val hτ rfl rfl rfl ?_
  refine awl_val hτ rfl rfl rfl ?_
  refine awl_val hτ rfl rfl rfl ?_
  refine bnd_elim h fun x5 hx5 h => ?_
  refine awl_callP hτ false [] rfl rfl rfl (enterOk func198 rfl rfl) rfl rfl (by simp) ⟨trivial, trivial, trivial⟩ (by repeat' first | exact trivial | refine ⟨?_, ?_⟩) (laws_sameFloat_ok n a_.re b_.re hx5) ?_
  rintro r0 o0 n0 ⟨rfl, rfl, rfl⟩ -
  refine awl_val hτ rfl rfl rfl ?_
  refine awl_split 10 rfl (fun hb6 => ?_) (fun hb6 => ?_)
  · have h := if_bt h hb6
    refine awl_val hτ rfl rfl rfl ?_
    refine awl_val hτ rfl rfl rfl ?_
    refine awl_val hτ rfl rfl rfl ?_
    refine awl_val hτ rfl rfl rfl ?_
    refine bnd_elim h fun x7 hx7 h => ?_
    refine awl_callP hτ false [] rfl rfl rfl (enterOk func198 rfl rfl) rfl rfl (by simp) ⟨trivial, trivial, trivial⟩ (by repeat' first | exact trivial | refine ⟨?_, ?_⟩) (laws_sameFloat_ok n a_.im b_.im hx7) ?_
    rintro r0 o0 n0 ⟨rfl, rfl, rfl⟩ -
    refine awl_val hτ rfl rfl rfl ?_
    refine awl_val hτ rfl rfl rfl ?_
    refine awl_nil ?_
    refine aw_weak (weak_ofP [] (l := [(4, .d (.bool x7))]) (objs := []) rfl (by simp) rfl (by repeat' first | exact trivial | refine ⟨?_, ?_⟩) ⟨rfl, trivial, trivial⟩) ?_
    refine aw_ret ?_
    have hr := Option.some.inj h
    subst hr
    exact ret_objs (.inr rfl) [] (objs' := []) (new := []) rfl (by simp) (by simp) rfl (by repeat' first | exact trivial | refine ⟨?_, ?_⟩) rfl rfl (by repeat' first | exact trivial | refine ⟨?_, ?_⟩) (fun _ => ⟨by simp [V.flat, V.flatA, V.flatC, D.flat], flat_nil⟩) ⟨rfl, rfl, rfl⟩
  · have h := if_bf h hb6
    refine awl_skip rfl rfl ?_
    refine awl_skip rfl rfl ?_
    refine awl_skip rfl rfl ?_
    refine awl_skip rfl rfl ?_
    refine awl_skip rfl rfl ?_
    refine awl_val hτ rfl rfl rfl ?_
    refine awl_val hτ rfl rfl rfl ?_
    refine awl_nil ?_
    refine aw_weak (weak_ofP [] (l := [(4, .d (.bool false))]) (objs := []) rfl (by simp) rfl (by repeat' first | exact trivial | refine ⟨?_, ?_⟩) ⟨rfl, trivial, trivial⟩) ?_
    refine aw_ret ?_
    have hr := Option.some.inj h
    subst hr
    exact ret_objs (.inr rfl) [] (objs' := []) (new := []) rfl (by simp) (by simp) rfl (by repeat' first | exact trivial | refine ⟨?_, ?_⟩) rfl rfl (by repeat' first | exact trivial | refine ⟨?_, ?_⟩) (fun _ => ⟨by simp [V.flat, V.flatA, V.flatC, D.flat], flat_nil⟩) ⟨rfl, rfl, rfl⟩
theorem laws_sameComplex_ok (n : Nat) (a_ : Cx) (b_ : Cx) {r : Bool} (h : m_laws_sameComplex n a_ b_ = some r) : ACall prog false 196 [.d (.cx .f64 a_.re a_.im), .d (.cx .f64 b_.re b_.im)] [] (fun v o new => v = .d (.bool r) ∧ o = [] ∧ new = []) := laws_sameComplex_ok_fr0 false n a_ b_ h
theorem laws_sameComplex_ok_fr (n : Nat) (a_ : Cx) (b_ : Cx) {r : Bool} (h : m_laws_sameComplex n a_ b_ = some r) : ACall prog true 196 [.d (.cx .f64 a_.re a_.im), .d (.cx .f64 b_.re b_.im)] [] (fun v o new => v = .d (.bool r) ∧ o = [] ∧ new = []) := laws_sameComplex_ok_fr0 true n a_ b_ h

def m_laws_eqPhases (n : Nat) (a_ : SPhases) (b_ : SPhases) : Option Bool :=
  (fconv .f32 .f64 a_.A.re).bind fun x21 =>
  (fconv .f32 .f64 a_.A.im).bind fun x22 =>
  (fconv .f32 .f64 b_.A.re).bind fun x23 =>
  (fconv .f32 .f64 b_.A.im).bind fun x24 =>
  (m_laws_sameComplex n (Cx.mk x21 x22) (Cx.mk x23 x24)).bind fun x25 =>
  if x25 = true then
    (fconv .f32 .f64 a_.B.re).bind fun x32 =>
    (fconv .f32 .f64 a_.B.im).bind fun x33 =>
    (fconv .f32 .f64 b_.B.re).bind fun x34 =>
    (fconv .f32 .f64 b_.B.im).bind fun x35 =>
    (m_laws_sameComplex n (Cx.mk x32 x33) (Cx.mk x34 x35)).bind fun x36 =>
    if x36 = true then
      (fconv .f32 .f64 a_.C.re).bind fun x38 =>
      (fconv .f32 .f64 a_.C.im).bind fun x39 =>
      (fconv .f32 .f64 b_.C.re).bind fun x40 =>
      (fconv .f32 .f64 b_.C.im).bind fun x41 =>
      (m_laws_sameComplex n (Cx.mk x38 x39) (Cx.mk x40 x41)).bind fun x42 =>
      if x42 = true then
        some true
      else
        some false
    else
      some false
  else
    some false
theorem laws_eqPhases_ok_fr0 (fr : Bool) (n : Nat) (a_ : SPhases) (b_ : SPhases) {r : Bool} (h : m_laws_eqPhases n a_ b_ = some r) : ACall prog fr 166 [.agg [.d (.cx .f32 a_.A.re a_.A.im), .d (.cx .f32 a_.B.re a_.B.im), .d (.cx .f32 a_.C.re a_.C.im)], .agg [.d (.cx .f32 b_.A.re b_.A.im), .d (.cx .f32 b_.B.re b_.B.im), .d (.cx .f32 b_.C.re b_.C.im)]] [] (fun v o new => v = .d (.bool r) ∧ o = [] ∧ new = []) := by
  refine acall_of_aw hτ func166 rfl (by simp) (by simp) ?_
  unfold m_laws_eqPhases at h
  refine aw_seq ?_
  refine aw_region ?_
  refine awl_valH hτ rfl rfl rfl ?_
  refine awl_valH hτ rfl rfl rfl ?_
  refine awl_val hτ rfl rfl rfl ?_
  refine awl_nil ?_
  refine aw_seq ?_
  refine aw_seq ?_
  refine aw_region ?_
  refine awl_val hτ rfl rfl rfl ?_
  refine awl_val hτ rfl rfl rfl ?_
  refine bnd_elim h fun x21 hx21 h => ?_
  refine bnd_elim h fun x22 hx22 h => ?_
  refine awl_x rfl rfl (x_c2c hτ rfl rfl rfl rfl rfl rfl hx21 hx22) ?_
  refine awl_val hτ rfl rfl rfl ?_
  refine awl_val hτ rfl rfl rfl ?_
  refine bnd_elim h fun x23 hx23 h => ?_
  refine bnd_elim h fun x24 hx24 h => ?_
  refine awl_x rfl rfl (x_c2c hτ rfl rfl rfl rfl rfl rfl hx23 hx24) ?_
  refine bnd_elim h fun x25 hx25 h => ?_
  refine awl_callP hτ false [] rfl rfl rfl (enterOk func196 rfl rfl) rfl rfl (by simp) ⟨trivial, trivial, trivial⟩ (by repeat' first | exact trivial | refine ⟨?_, ?_⟩) (laws_sameComplex_ok n (Cx.mk x21 x22) (Cx.mk x23 x24) hx25) ?_
  rintro r0 o0 n0 ⟨rfl, rfl, rfl⟩ -
  refine awl_val hτ rfl rfl rfl ?_
  refine awl_nil ?_
  refine aw_weak (weak_ofP [0, 1] (l := [(2, .ptr 0 0), (3, .ptr 1 0), (12, .d (.bool (!x25)))]) (objs := [.box [.d (.cx .f32 a_.A.re a_.A.im), .d (.cx .f32 a_.B.re a_.B.im), .d (.cx .f32 a_.C.re a_.C.im)], .box [.d (.cx .f32 b_.A.re b_.A.im), .d (.cx .f32 b_.B.re b_.B.im), .d (.cx .f32 b_.C.re b_.C.im)]]) rfl (by simp) rfl (by repeat' first | exact trivial | refine ⟨?_, ?_⟩) ⟨rfl, trivial, rfl, trivial, rfl, trivial, trivial⟩) ?_
  refine aw_cond rfl (fun hc26 => ?_) (fun hc26 => ?_)
  · have hc26 := not_t hc26
    have h := if_bf h hc26
    refine aw_seq ?_
    refine aw_region ?_
    refine awl_val hτ rfl rfl rfl ?_
    refine awl_nil ?_
    refine aw_weak (weak_ofP [] (l := [(4, .d (.bool false))]) (objs := []) rfl (by simp) rfl (by repeat' first | exact trivial | refine ⟨?_, ?_⟩) ⟨rfl, trivial, trivial⟩) ?_
    refine aw_ret ?_
    have hr := Option.some.inj h
    subst hr
    exact ret_objs (.inr rfl) [] (objs' := []) (new := []) rfl (by simp) (by simp) rfl (by repeat' first | exact trivial | refine ⟨?_, ?_⟩) rfl rfl (by repeat' first | exact trivial | refine ⟨?_, ?_⟩) (fun _ => ⟨by simp [V.flat, V.flatA, V.flatC, D.flat], flat_nil⟩) ⟨rfl, rfl, rfl⟩
  · have hc26 := not_f hc26
    have h := if_bt h hc26
    refine aw_skip ?_
    refine aw_seq ?_
    refine aw_seq ?_
    refine aw_region ?_
    refine awl_val hτ rfl rfl rfl ?_
    refine awl_val hτ rfl rfl rfl ?_
    refine bnd_elim h fun x32 hx32 h => ?_
    refine bnd_elim h fun x33 hx33 h => ?_
    refine awl_x rfl rfl (x_c2c hτ rfl rfl rfl rfl rfl rfl hx32 hx33) ?_
    refine awl_val hτ rfl rfl rfl ?_
    refine awl_val hτ rfl rfl rfl ?_
    refine bnd_elim h fun x34 hx34 h => ?_
    refine bnd_elim h fun x35 hx35 h => ?_
    refine awl_x rfl rfl (x_c2c hτ rfl rfl rfl rfl rfl rfl hx34 hx35) ?_
    refine bnd_elim h fun x36 hx36 h => ?_
    refine awl_callP hτ false [] rfl rfl rfl (enterOk func196 rfl rfl) rfl rfl (by simp) ⟨trivial, trivial, trivial⟩ (by repeat' first | exact trivial | refine ⟨?_, ?_⟩) (laws_sameComplex_ok n (Cx.mk x32 x33) (Cx.mk x34 x35) hx36) ?_
    rintro r0 o0 n0 ⟨rfl, rfl, rfl⟩ -
    refine awl_val hτ rfl rfl rfl ?_
    refine awl_nil ?_
    refine aw_weak (weak_ofP [0, 1] (l := [(2, .ptr 0 0), (3, .ptr 1 0), (20, .d (.bool (!x36)))]) (objs := [.box [.d (.cx .f32 a_.A.re a_.A.im), .d (.cx .f32 a_.B.re a_.B.im), .d (.cx .f32 a_.C.re a_.C.im)], .box [.d (.cx .f32 b_.A.re b_.A.im), .d (.cx .f32 b_.B.re b_.B.im), .d (.cx .f32 b_.C.re b_.C.im)]]) rfl (by simp) rfl (by repeat' first | exact trivial | refine ⟨?_, ?_⟩) ⟨rfl, trivial, rfl, trivial, rfl, trivial, trivial⟩) ?_
    refine aw_cond rfl (fun hc37 => ?_) (fun hc37 => ?_)
    · have hc37 := not_t hc37
      have h := if_bf h hc37
      refine aw_seq ?_
      refine aw_region ?_
      refine awl_val hτ rfl rfl rfl ?_
      refine awl_nil ?_
      refine aw_weak (weak_ofP [] (l := [(4, .d (.bool false))]) (objs := []) rfl (by simp) rfl (by repeat' first | exact trivial | refine ⟨?_, ?_⟩) ⟨rfl, trivial, trivial⟩) ?_
      refine aw_ret ?_
      have hr := Option.some.inj h
      subst hr
      exact ret_objs (.inr rfl) [] (objs' := []) (new := []) rfl (by simp) (by simp) rfl (by repeat' first | exact trivial | refine ⟨?_, ?_⟩) rfl rfl (by repeat' first | exact trivial | refine ⟨?_, ?_⟩) (fun _ => ⟨by simp [V.flat, V.flatA, V.flatC, D.flat], flat_nil⟩) ⟨rfl, rfl, rfl⟩
    · have hc37 := not_f hc37
      have h := if_bt h hc37
      refine aw_skip ?_
      refine aw_seq ?_
      refine aw_seq ?_
      refine aw_region ?_
      refine awl_val hτ rfl rfl rfl ?_
      refine awl_val hτ rfl rfl rfl ?_
      refine bnd_elim h fun x38 hx38 h => ?_
      refine bnd_elim h fun x39 hx39 h => ?_
      refine awl_x rfl rfl (x_c2c hτ rfl rfl rfl rfl rfl rfl hx38 hx39) ?_
      refine awl_val hτ rfl rfl rfl ?_
      refine awl_val hτ rfl rfl rfl ?_
      refine bnd_elim h fun x40 hx40 h => ?_
      refine bnd_elim h fun x41 hx41 h => ?_
      refine awl_x rfl rfl (x_c2c hτ rfl rfl rfl rfl rfl rfl hx40 hx41) ?_
      refine bnd_elim h fun x42 hx42 h => ?_
      refine awl_callP hτ false [] rfl rfl rfl (enterOk func196 rfl rfl) rfl rfl (by simp) ⟨trivial, trivial, trivial⟩ (by repeat' first | exact trivial | refine ⟨?_, ?_⟩) (laws_sameComplex_ok n (Cx.mk x38 x39) (Cx.mk x40 x41) hx42) ?_
      rintro r0 o0 n0 ⟨rfl, rfl, rfl⟩ -
      refine awl_val hτ rfl rfl rfl ?_
      refine awl_nil ?_
      refine aw_weak (weak_ofP [] (l := [(28, .d (.bool (!x42)))]) (objs := []) rfl (by simp) rfl (by repeat' first | exact trivial | refine ⟨?_, ?_⟩) ⟨rfl, trivial, trivial⟩) ?_
      refine aw_cond rfl (fun hc43 => ?_) (fun hc43 => ?_)
      · have hc43 := not_t hc43
        have h := if_bf h hc43
        refine aw_seq ?_
        refine aw_region ?_
        refine awl_val hτ rfl rfl rfl ?_
        refine awl_nil ?_
        refine aw_weak (weak_ofP [] (l := [(4, .d (.bool false))]) (objs := []) rfl (by simp) rfl (by repeat' first | exact trivial | refine ⟨?_, ?_⟩) ⟨rfl, trivial, trivial⟩) ?_
        refine aw_ret ?_
        have hr := Option.some.inj h
        subst hr
        exact ret_objs (.inr rfl) [] (objs' := []) (new := []) rfl (by simp) (by simp) rfl (by repeat' first | exact trivial | refine ⟨?_, ?_⟩) rfl rfl (by repeat' first | exact trivial | refine ⟨?_, ?_⟩) (fun _ => ⟨by simp [V.flat, V.flatA, V.flatC, D.flat], flat_nil⟩) ⟨rfl, rfl, rfl⟩
      · have hc43 := not_f hc43
        have h := if_bt h hc43
        refine aw_skip ?_
        refine aw_seq ?_
        refine aw_region ?_
        refine awl_val hτ rfl rfl rfl ?_
        refine awl_nil ?_
        refine aw_weak (weak_ofP [] (l := [(4, .d (.bool true))]) (objs := []) rfl (by simp) rfl (by repeat' first | exact trivial | refine ⟨?_, ?_⟩) ⟨rfl, trivial, trivial⟩) ?_
        refine aw_ret ?_
        have hr := Option.some.inj h
        subst hr
        exact ret_objs (.inr rfl) [] (objs' := []) (new := []) rfl (by simp) (by simp) rfl (by repeat' first | exact trivial | refine ⟨?_, ?_⟩) rfl rfl (by repeat' first | exact trivial | refine ⟨?_, ?_⟩) (fun _ => ⟨by simp [V.flat, V.flatA, V.flatC, D.flat], flat_nil⟩) ⟨rfl, rfl, rfl⟩
theorem laws_eqPhases_ok (n : Nat) (a_ : SPhases) (b_ : SPhases) {r : Bool} (h : m_laws_eqPhases n a_ b_ = some r) : ACall prog false 166 [.agg [.d (.cx .f32 a_.A.re a_.A.im), .d (.cx .f32 a_.B.re a_.B.im), .d (.cx .f32 a_.C.re a_.C.im)], .agg [.d (.cx .f32 b_.A.re b_.A.im), .d (.cx .f32 b_.B.re b_.B.im), .d (.cx .f32 b_.C.re b_.C.im)]] [] (fun v o new => v = .d (.bool r) ∧ o = [] ∧ new = []) := laws_eqPhases_ok_fr0 false n a_ b_ h
theorem laws_eqPhases_ok_fr (n : Nat) (a_ : SPhases) (b_ : SPhases) {r : Bool} (h : m_laws_eqPhases n a_ b_ = some r) : ACall prog true 166 [.agg [.d (.cx .f32 a_.A.re a_.A.im), .d (.cx .f32 a_.B.re a_.B.im), .d (.cx .f32 a_.C.re a_.C.im)], .agg [.d (.cx .f32 b_.A.re b_.A.im), .d (.cx .f32 b_.B.re b_.B.im), .d (.cx .f32 b_.C.re b_.C.im)]] [] (fun v o new => v = .d (.bool r) ∧ o = [] ∧ new = []) := laws_eqPhases_ok_fr0 true n a_ b_ h

def m_laws_eqBus (n : Nat) (a_ : SBus) (b_ : SBus) : Option Bool :=
  if a_.Parent = b_.Parent then
    (fconv .f32 .f64 a_.Own.re).bind fun x18 =>
    (fconv .f32 .f64 a_.Own.im).bind fun x19 =>
    (fconv .f32 .f64 b_.Own.re).bind fun x20 =>
    (fconv .f32 .f64 b_.Own.im).bind fun x21 =>
    (m_laws_sameComplex n (Cx.mk x18 x19) (Cx.mk x20 x21)).bind fun x22 =>
    if x22 = true then
      (fconv .f32 .f64 a_.Shared.re).bind fun x29 =>
      (fconv .f32 .f64 a_.Shared.im).bind fun x30 =>
      (fconv .f32 .f64 b_.Shared.re).bind fun x31 =>
      (fconv .f32 .f64 b_.Shared.im).bind fun x32 =>
      (m_laws_sameComplex n (Cx.mk x29 x30) (Cx.mk x31 x32)).bind fun x33 =>
      if x33 = true then
        if a_.Kind = b_.Kind then
          (m_laws_eqPhases n a_.Load b_.Load).bind fun x37 =>
          if x37 = true then
            if a_.Customers = b_.Customers then
              some true
            else
              some false
          else
            some false
        else
          some false
      else
        some false
    else
      some false
  else
    some false
theorem laws_eqBus_ok_fr0 (fr : Bool) (n : Nat) (a_ : SBus) (b_ : SBus) {r : Bool} (h : m_laws_eqBus n a_ b_ = some r) : ACall prog fr 197 [.agg [.d (.int .i64 a_.Parent), .d (.cx .f32 a_.Own.re a_.Own.im), .d (.cx .f32 a_.Shared.re a_.Shared.im), .d (.int .i64 a_.Kind), .d (.cx .f32 a_.Load.A.re a_.Load.A.im), .d (.cx .f32 a_.Load.B.re a_.Load.B.im), .d (.cx .f32 a_.Load.C.re a_.Load.C.im), .d (.int .i64 a_.Customers)], .agg [.d (.int .i64 b_.Parent), .d (.cx .f32 b_.Own.re b_.Own.im), .d (.cx .f32 b_.Shared.re b_.Shared.im), .d (.int .i64 b_.Kind), .d (.cx .f32 b_.Load.A.re b_.Load.A.im), .d (.cx .f32 b_.Load.B.re b_.Load.B.im), .d (.cx .f32 b_.Load.C.re b_.Load.C.im), .d (.int .i64 b_.Customers)]] [] (fun v o new => v = .d (.bool r) ∧ o = [] ∧ new = []) := by
  refine acall_of_aw hτ func197 rfl (by simp) (by simp) ?_
  unfold m_laws_eqBus at h
  refine aw_seq ?_
  refine aw_region ?_
  refine awl_valH hτ rfl rfl rfl ?_
  refine awl_valH hτ rfl rfl rfl ?_
  refine awl_val hτ rfl rfl rfl ?_
  refine awl_nil ?_
  refine aw_seq ?_
  refine aw_seq ?_
  refine aw_region ?_
  refine awl_val hτ rfl rfl rfl ?_
  refine awl_val hτ rfl rfl rfl ?_
  refine awl_val hτ rfl rfl rfl ?_
  refine awl_val hτ rfl rfl rfl ?_
  refine awl_val hτ (v := .d (.bool (!(decide (a_.Parent = b_.Parent))))) rfl rfl (or_ine _ _) ?_
  refine awl_nil ?_
  refine aw_weak (weak_ofP [0, 1] (l := [(2, .ptr 0 0), (3, .ptr 1 0), (9, .d (.bool (!(decide (a_.Parent = b_.Parent)))))]) (objs := [.box [.d (.int .i64 a_.Parent), .d (.cx .f32 a_.Own.re a_.Own.im), .d (.cx .f32 a_.Shared.re a_.Shared.im), .d (.int .i64 a_.Kind), .d (.cx .f32 a_.Load.A.re a_.Load.A.im), .d (.cx .f32 a_.Load.B.re a_.Load.B.im), .d (.cx .f32 a_.Load.C.re a_.Load.C.im), .d (.int .i64 a_.Customers)], .box [.d (.int .i64 b_.Parent), .d (.cx .f32 b_.Own.re b_.Own.im), .d (.cx .f32 b_.Shared.re b_.Shared.im), .d (.int .i64 b_.Kind), .d (.cx .f32 b_.Load.A.re b_.Load.A.im), .d (.cx .f32 b_.Load.B.re b_.Load.B.im), .d (.cx .f32 b_.Load.C.re b_.Load.C.im), .d (.int .i64 b_.Customers)]]) rfl (by simp) rfl (by repeat' first | exact trivial | refine ⟨?_, ?_⟩) ⟨rfl, trivial, rfl, trivial, rfl, trivial, trivial⟩) ?_
  refine aw_cond rfl (fun hc12 => ?_) (fun hc12 => ?_)
  · have hc12 := not_t hc12
    have h := if_f h hc12
    refine aw_seq ?_
    refine aw_region ?_
    refine awl_val hτ rfl rfl rfl ?_
    refine awl_nil ?_
    refine aw_weak (weak_ofP [] (l := [(4, .d (.bool false))]) (objs := []) rfl (by simp) rfl (by repeat' first | exact trivial | refine ⟨?_, ?_⟩) ⟨rfl, trivial, trivial⟩) ?_
    refine aw_ret ?_
    have hr := Option.some.inj h
    subst hr
    exact ret_objs (.inr rfl) [] (objs' := []) (new := []) rfl (by simp) (by simp) rfl (by repeat' first | exact trivial | refine ⟨?_, ?_⟩) rfl rfl (by repeat' first | exact trivial | refine ⟨?_, ?_⟩) (fun _ => ⟨by simp [V.flat, V.flatA, V.flatC, D.flat], flat_nil⟩) ⟨rfl, rfl, rfl⟩
  · have hc12 := not_f hc12
    have h := if_t h hc12
    refine aw_skip ?_
    refine aw_seq ?_
    refine aw_seq ?_
    refine aw_region ?_
    refine awl_val hτ rfl rfl rfl ?_
    refine awl_val hτ rfl rfl rfl ?_
    refine bnd_elim h fun x18 hx18 h => ?_
    refine bnd_elim h fun x19 hx19 h => ?_
    refine awl_x rfl rfl (x_c2c hτ rfl rfl rfl rfl rfl rfl hx18 hx19) ?_
    refine awl_val hτ rfl rfl rfl ?_
    refine awl_val hτ rfl rfl rfl ?_
    refine bnd_elim h fun x20 hx20 h => ?_
    refine bnd_elim h fun x21 hx21 h => ?_
    refine awl_x rfl rfl (x_c2c hτ rfl rfl rfl rfl rfl rfl hx20 hx21) ?_
    refine bnd_elim h fun x22 hx22 h => ?_
    refine awl_callP hτ false [] rfl rfl rfl (enterOk func196 rfl rfl) rfl rfl (by simp) ⟨trivial, trivial, trivial⟩ (by repeat' first | exact trivial | refine ⟨?_, ?_⟩) (laws_sameComplex_ok n (Cx.mk x18 x19) (Cx.mk x20 x21) hx22) ?_
    rintro r0 o0 n0 ⟨rfl, rfl, rfl⟩ -
    refine awl_val hτ rfl rfl rfl ?_
    refine awl_nil ?_
    refine aw_weak (weak_ofP [0, 1] (l := [(2, .ptr 0 0), (3, .ptr 1 0), (17, .d (.bool (!x22)))]) (objs := [.box [.d (.int .i64 a_.Parent), .d (.cx .f32 a_.Own.re a_.Own.im), .d (.cx .f32 a_.Shared.re a_.Shared.im), .d (.int .i64 a_.Kind), .d (.cx .f32 a_.Load.A.re a_.Load.A.im), .d (.cx .f32 a_.Load.B.re a_.Load.B.im), .d (.cx .f32 a_.Load.C.re a_.Load.C.im), .d (.int .i64 a_.Customers)], .box [.d (.int .i64 b_.Parent), .d (.cx .f32 b_.Own.re b_.Own.im), .d (.cx .f32 b_.Shared.re b_.Shared.im), .d (.int .i64 b_.Kind), .d (.cx .f32 b_.Load.A.re b_.Load.A.im), .d (.cx .f32 b_.Load.B.re b_.Load.B.im), .d (.cx .f32 b_.Load.C.re b_.Load.C.im), .d (.int .i64 b_.Customers)]]) rfl (by simp) rfl (by repeat' first | exact trivial | refine ⟨?_, ?_⟩) ⟨rfl, trivial, rfl, trivial, rfl, trivial, trivial⟩) ?_
    refine aw_cond rfl (fun hc23 => ?_) (fun hc23 => ?_)
    · have hc23 := not_t hc23
      have h := if_bf h hc23
      refine aw_seq ?_
      refine aw_region ?_
      refine awl_val hτ rfl rfl rfl ?_
      refine awl_nil ?_
      refine aw_weak (weak_ofP [] (l := [(4, .d (.bool false))]) (objs := []) rfl (by simp) rfl (by repeat' first | exact trivial | refine ⟨?_, ?_⟩) ⟨rfl, trivial, trivial⟩) ?_
      refine aw_ret ?_
      have hr := Option.some.inj h
      subst hr
      exact ret_objs (.inr rfl) [] (objs' := []) (new := []) rfl (by simp) (by simp) rfl (by repeat' first | exact trivial | refine ⟨?_, ?_⟩) rfl rfl (by repeat' first | exact trivial | refine ⟨?_, ?_⟩) (fun _ => ⟨by simp [V.flat, V.flatA, V.flatC, D.flat], flat_nil⟩) ⟨rfl, rfl, rfl⟩
    · have hc23 := not_f hc23
      have h := if_bt h hc23
      refine aw_skip ?_
      refine aw_seq ?_
      refine aw_seq ?_
      refine aw_region ?_
      refine awl_val hτ rfl rfl rfl ?_
      refine awl_val hτ rfl rfl rfl ?_
      refine bnd_elim h fun x29 hx29 h => ?_
      refine bnd_elim h fun x30 hx30 h => ?_
      refine awl_x rfl rfl (x_c2c hτ rfl rfl rfl rfl rfl rfl hx29 hx30) ?_
      refine awl_val hτ rfl rfl rfl ?_
      refine awl_val hτ rfl rfl rfl ?_
      refine bnd_elim h fun x31 hx31 h => ?_
      refine bnd_elim h fun x32 hx32 h => ?_
      refine awl_x rfl rfl (x_c2c hτ rfl rfl rfl rfl rfl rfl hx31 hx32) ?_
      refine bnd_elim h fun x33 hx33 h => ?_
      refine awl_callP hτ false [] rfl rfl rfl (enterOk func196 rfl rfl) rfl rfl (by simp) ⟨trivial, trivial, trivial⟩ (by repeat' first | exact trivial | refine ⟨?_, ?_⟩) (laws_sameComplex_ok n (Cx.mk x29 x30) (Cx.mk x31 x32) hx33) ?_
      rintro r0 o0 n0 ⟨rfl, rfl, rfl⟩ -
      refine awl_val hτ rfl rfl rfl ?_
      refine awl_nil ?_
      refine aw_weak (weak_ofP [0, 1] (l := [(2, .ptr 0 0), (3, .ptr 1 0), (25, .d (.bool (!x33)))]) (objs := [.box [.d (.int .i64 a_.Parent), .d (.cx .f32 a_.Own.re a_.Own.im), .d (.cx .f32 a_.Shared.re a_.Shared.im), .d (.int .i64 a_.Kind), .d (.cx .f32 a_.Load.A.re a_.Load.A.im), .d (.cx .f32 a_.Load.B.re a_.Load.B.im), .d (.cx .f32 a_.Load.C.re a_.Load.C.im), .d (.int .i64 a_.Customers)], .box [.d (.int .i64 b_.Parent), .d (.cx .f32 b_.Own.re b_.Own.im), .d (.cx .f32 b_.Shared.re b_.Shared.im), .d (.int .i64 b_.Kind), .d (.cx .f32 b_.Load.A.re b_.Load.A.im), .d (.cx .f32 b_.Load.B.re b_.Load.B.im), .d (.cx .f32 b_.Load.C.re b_.Load.C.im), .d (.int .i64 b_.Customers)]]) rfl (by simp) rfl (by repeat' first | exact trivial | refine ⟨?_, ?_⟩) ⟨rfl, trivial, rfl, trivial, rfl, trivial, trivial⟩) ?_
      refine aw_cond rfl (fun hc34 => ?_) (fun hc34 => ?_)
      · have hc34 := not_t hc34
        have h := if_bf h hc34
        refine aw_seq ?_
        refine aw_region ?_
        refine awl_val hτ rfl rfl rfl ?_
        refine awl_nil ?_
        refine aw_weak (weak_ofP [] (l := [(4, .d (.bool false))]) (objs := []) rfl (by simp) rfl (by repeat' first | exact trivial | refine ⟨?_, ?_⟩) ⟨rfl, trivial, trivial⟩) ?_
        refine aw_ret ?_
        have hr := Option.some.inj h
        subst hr
        exact ret_objs (.inr rfl) [] (objs' := []) (new := []) rfl (by simp) (by simp) rfl (by repeat' first | exact trivial | refine ⟨?_, ?_⟩) rfl rfl (by repeat' first | exact trivial | refine ⟨?_, ?_⟩) (fun _ => ⟨by simp [V.flat, V.flatA, V.flatC, D.flat], flat_nil⟩) ⟨rfl, rfl, rfl⟩
      · have hc34 := not_f hc34
        have h := if_bt h hc34
        refine aw_skip ?_
        refine aw_seq ?_
        refine aw_seq ?_
        refine aw_region ?_
        refine awl_val hτ rfl rfl rfl ?_
        refine awl_val hτ rfl rfl rfl ?_
        refine awl_val hτ rfl rfl rfl ?_
        refine awl_val hτ rfl rfl rfl ?_
        refine awl_val hτ (v := .d (.bool (!(decide (a_.Kind = b_.Kind))))) rfl rfl (or_ine _ _) ?_
        refine awl_nil ?_
        refine aw_cond rfl (fun hc35 => ?_) (fun hc35 => ?_)
        · have hc35 := not_t hc35
          have h := if_f h hc35
          refine aw_seq ?_
          refine aw_region ?_
          refine awl_val hτ rfl rfl rfl ?_
          refine awl_nil ?_
          refine aw_weak (weak_ofP [] (l := [(4, .d (.bool false))]) (objs := []) rfl (by simp) rfl (by repeat' first | exact trivial | refine ⟨?_, ?_⟩) ⟨rfl, trivial, trivial⟩) ?_
          refine aw_ret ?_
          have hr := Option.some.inj h
          subst hr
          exact ret_objs (.inr rfl) [] (objs' := []) (new := []) rfl (by simp) (by simp) rfl (by repeat' first | exact trivial | refine ⟨?_, ?_⟩) rfl rfl (by repeat' first | exact trivial | refine ⟨?_, ?_⟩) (fun _ => ⟨by simp [V.flat, V.flatA, V.flatC, D.flat], flat_nil⟩) ⟨rfl, rfl, rfl⟩
        · have hc35 := not_f hc35
          have h := if_t h hc35
          refine aw_skip ?_
          refine aw_seq ?_
          refine aw_seq ?_
          refine aw_region ?_
          refine awl_val hτ rfl rfl rfl ?_
          refine awl_val hτ rfl rfl rfl ?_
          refine awl_val hτ rfl rfl rfl ?_
          refine awl_val hτ rfl rfl rfl ?_
          refine bnd_elim h fun x37 hx37 h => ?_
          refine awl_callP hτ false [] rfl rfl rfl (enterOk func166 rfl rfl) rfl rfl (by simp) ⟨(by repeat' first | exact trivial | refine ⟨?_, ?_⟩), (by repeat' first | exact trivial | refine ⟨?_, ?_⟩), trivial⟩ (by repeat' first | exact trivial | refine ⟨?_, ?_⟩) (laws_eqPhases_ok n a_.Load b_.Load hx37) ?_
          rintro r0 o0 n0 ⟨rfl, rfl, rfl⟩ -
          refine awl_val hτ rfl rfl rfl ?_
          refine awl_nil ?_
          refine aw_weak (weak_ofP [0, 1] (l := [(2, .ptr 0 0), (3, .ptr 1 0), (36, .d (.bool (!x37)))]) (objs := [.box [.d (.int .i64 a_.Parent), .d (.cx .f32 a_.Own.re a_.Own.im), .d (.cx .f32 a_.Shared.re a_.Shared.im), .d (.int .i64 a_.Kind), .d (.cx .f32 a_.Load.A.re a_.Load.A.im), .d (.cx .f32 a_.Load.B.re a_.Load.B.im), .d (.cx .f32 a_.Load.C.re a_.Load.C.im), .d (.int .i64 a_.Customers)], .box [.d (.int .i64 b_.Parent), .d (.cx .f32 b_.Own.re b_.Own.im), .d (.cx .f32 b_.Shared.re b_.Shared.im), .d (.int .i64 b_.Kind), .d (.cx .f32 b_.Load.A.re b_.Load.A.im), .d (.cx .f32 b_.Load.B.re b_.Load.B.im), .d (.cx .f32 b_.Load.C.re b_.Load.C.im), .d (.int .i64 b_.Customers)]]) rfl (by simp) rfl (by repeat' first | exact trivial | refine ⟨?_, ?_⟩) ⟨rfl, trivial, rfl, trivial, rfl, trivial, trivial⟩) ?_
          refine aw_cond rfl (fun hc38 => ?_) (fun hc38 => ?_)
          · have hc38 := not_t hc38
            have h := if_bf h hc38
            refine aw_seq ?_
            refine aw_region ?_
            refine awl_val hτ rfl rfl rfl ?_
            refine awl_nil ?_
            refine aw_weak (weak_ofP [] (l := [(4, .d (.bool false))]) (objs := []) rfl (by simp) rfl (by repeat' first | exact trivial | refine ⟨?_, ?_⟩) ⟨rfl, trivial, trivial⟩) ?_
            refine aw_ret ?_
            have hr := Option.some.inj h
            subst hr
            exact ret_objs (.inr rfl) [] (objs' := []) (new := []) rfl (by simp) (by simp) rfl (by repeat' first | exact trivial | refine ⟨?_, ?_⟩) rfl rfl (by repeat' first | exact trivial | refine ⟨?_, ?_⟩) (fun _ => ⟨by simp [V.flat, V.flatA, V.flatC, D.flat], flat_nil⟩) ⟨rfl, rfl, rfl⟩
          · have hc38 := not_f hc38
            have h := if_bt h hc38
            refine aw_skip ?_
            refine aw_seq ?_
            refine aw_seq ?_
            refine aw_region ?_
            refine awl_val hτ rfl rfl rfl ?_
            refine awl_val hτ rfl rfl rfl ?_
            refine awl_val hτ rfl rfl rfl ?_
            refine awl_val hτ rfl rfl rfl ?_
            refine awl_val hτ (v := .d (.bool (!(decide (a_.Customers = b_.Customers))))) rfl rfl (or_ine _ _) ?_
            refine awl_nil ?_
            refine aw_cond rfl (fun hc39 => ?_) (fun hc39 => ?_)
            · have hc39 := not_t hc39
              have h := if_f h hc39
              refine aw_seq ?_
              refine aw_region ?_
              refine awl_val hτ rfl rfl rfl ?_
              refine awl_nil ?_
              refine aw_weak (weak_ofP [] (l := [(4, .d (.bool false))]) (objs := []) rfl (by simp) rfl (by repeat' first | exact trivial | refine ⟨?_, ?_⟩) ⟨rfl, trivial, trivial⟩) ?_
              refine aw_ret ?_
              have hr := Option.some.inj h
              subst hr
              exact ret_objs (.inr rfl) [] (objs' := []) (new := []) rfl (by simp) (by simp) rfl (by repeat' first | exact trivial | refine ⟨?_, ?_⟩) rfl rfl (by repeat' first | exact trivial | refine ⟨?_, ?_⟩) (fun _ => ⟨by simp [V.flat, V.flatA, V.flatC, D.flat], flat_nil⟩) ⟨rfl, rfl, rfl⟩
            · have hc39 := not_f hc39
              have h := if_t h hc39
              refine aw_skip ?_
              refine aw_seq ?_
              refine aw_region ?_
              refine awl_val hτ rfl rfl rfl ?_
              refine awl_nil ?_
              refine aw_weak (weak_ofP [] (l := [(4, .d (.bool true))]) (objs := []) rfl (by simp) rfl (by repeat' first | exact trivial | refine ⟨?_, ?_⟩) ⟨rfl, trivial, trivial⟩) ?_
              refine aw_ret ?_
              have hr := Option.some.inj h
              subst hr
              exact ret_objs (.inr rfl) [] (objs' := []) (new := []) rfl (by simp) (by simp) rfl (by repeat' first | exact trivial | refine ⟨?_, ?_⟩) rfl rfl (by repeat' first | exact trivial | refine ⟨?_, ?_⟩) (fun _ => ⟨by simp [V.flat, V.flatA, V.flatC, D.flat], flat_nil⟩) ⟨rfl, rfl, rfl⟩
theorem laws_eqBus_ok (n : Nat) (a_ : SBus) (b_ : SBus) {r : Bool} (h : m_laws_eqBus n a_ b_ = some r) : ACall prog false 197 [.agg [.d (.int .i64 a_.Parent), .d (.cx .f32 a_.Own.re a_.Own.im), .d (.cx .f32 a_.Shared.re a_.Shared.im), .d (.int .i64 a_.Kind), .d (.cx .f32 a_.Load.A.re a_.Load.A.im), .d (.cx .f32 a_.Load.B.re a_.Load.B.im), .d (.cx .f32 a_.Load.C.re a_.Load.C.im), .d (.int .i64 a_.Customers)], .agg [.d (.int .i64 b_.Parent), .d (.cx .f32 b_.Own.re b_.Own.im), .d (.cx .f32 b_.Shared.re b_.Shared.im), .d (.int .i64 b_.Kind), .d (.cx .f32 b_.Load.A.re b_.Load.A.im), .d (.cx .f32 b_.Load.B.re b_.Load.B.im), .d (.cx .f32 b_.Load.C.re b_.Load.C.im), .d (.int .i64 b_.Customers)]] [] (fun v o new => v = .d (.bool r) ∧ o = [] ∧ new = []) := laws_eqBus_ok_fr0 false n a_ b_ h
theorem laws_eqBus_ok_fr (n : Nat) (a_ : SBus) (b_ : SBus) {r : Bool} (h : m_laws_eqBus n a_ b_ = some r) : ACall prog true 197 [.agg [.d (.int .i64 a_.Parent), .d (.cx .f32 a_.Own.re a_.Own.im), .d (.cx .f32 a_.Shared.re a_.Shared.im), .d (.int .i64 a_.Kind), .d (.cx .f32 a_.Load.A.re a_.Load.A.im), .d (.cx .f32 a_.Load.B.re a_.Load.B.im), .d (.cx .f32 a_.Load.C.re a_.Load.C.im), .d (.int .i64 a_.Customers)], .agg [.d (.int .i64 b_.Parent), .d (.cx .f32 b_.Own.re b_.Own.im), .d (.cx .f32 b_.Shared.re b_.Shared.im), .d (.int .i64 b_.Kind), .d (.cx .f32 b_.Load.A.re b_.Load.A.im), .d (.cx .f32 b_.Load.B.re b_.Load.B.im), .d (.cx .f32 b_.Load.C.re b_.Load.C.im), .d (.int .i64 b_.Customers)]] [] (fun v o new => v = .d (.bool r) ∧ o = [] ∧ new = []) := laws_eqBus_ok_fr0 true n a_ b_ h

def m_laws_eqBusS_l1 (n : Nat) (a_ : List SBus) (b_ : List SBus) : Nat → Int → Option Bool
  | 0, _ => none
  | m18 + 1, v13 =>
    if v13 < (a_.length : Int) then
      (getI a_ v13).bind fun x24 =>
      (getI b_ v13).bind fun x25 =>
      (m_laws_eqBus n x24 x25).bind fun x26 =>
      if x26 = true then
        (m_laws_eqBusS_l1 n a_ b_ m18) (w64 (v13 + (1 : Int)))
      else
        some false
    else
      some true
def m_laws_eqBusS (n : Nat) (a_ : List SBus) (b_ : List SBus) : Option Bool :=
  if (a_.length : Int) = (b_.length : Int) then
    m_laws_eqBusS_l1 n a_ b_ n (0 : Int)
  else
    some false
theorem laws_eqBusS_ok_fr0 (fr : Bool) (n : Nat) (a_ : List SBus) (b_ : List SBus) {r : Bool} (h : m_laws_eqBusS n a_ b_ = some r) : ACall prog fr 167 [.d (.sl false (a_.map eSBus)), .d (.sl false (b_.map eSBus))] [] (fun v o new => v = .d (.bool r) ∧ o = [] ∧ new = []) := by
  refine acall_of_aw hτ func167 rfl (by simp) (by simp) ?_
  unfold m_laws_eqBusS at h
  refine aw_seq ?_
  refine aw_region ?_
  refine awl_val hτ rfl rfl rfl ?_
  refine awl_nil ?_
  refine aw_seq ?_
  refine aw_seq ?_
  refine aw_region ?_
  refine awl_val hτ rfl rfl rfl ?_
  refine awl_val hτ (v := .d (.int .i64 (a_.length : Int))) rfl rfl (Eq.trans rfl (or_len (f := eSBus) a_)) ?_
  refine awl_val hτ rfl rfl rfl ?_
  refine awl_val hτ (v := .d (.int .i64 (b_.length : Int))) rfl rfl (Eq.trans rfl (or_len (f := eSBus) b_)) ?_
  refine awl_val hτ (v := .d (.bool (!(decide ((a_.length : Int) = (b_.length : Int)))))) rfl rfl (or_ine _ _) ?_
  refine awl_nil ?_
  refine aw_weak (weak_ofP [] (l := [(0, .d (.sl false (a_.map eSBus))), (1, .d (.sl false (b_.map eSBus))), (10, .d (.bool (!(decide ((a_.length : Int) = (b_.length : Int))))))]) (objs := []) rfl (by simp) rfl (by repeat' first | exact trivial | refine ⟨?_, ?_⟩) ⟨rfl, trivial, rfl, trivial, rfl, trivial, trivial⟩) ?_
  refine aw_cond rfl (fun hc9 => ?_) (fun hc9 => ?_)
  · have hc9 := not_t hc9
    have h := if_f h hc9
    refine aw_seq ?_
    refine aw_region ?_
    refine awl_val hτ rfl rfl rfl ?_
    refine awl_nil ?_
    refine aw_weak (weak_ofP [] (l := [(4, .d (.bool false))]) (objs := []) rfl (by simp) rfl (by repeat' first | exact trivial | refine ⟨?_, ?_⟩) ⟨rfl, trivial, trivial⟩) ?_
    refine aw_ret ?_
    have hr := Option.some.inj h
    subst hr
    exact ret_objs (.inr rfl) [] (objs' := []) (new := []) rfl (by simp) (by simp) rfl (by repeat' first | exact trivial | refine ⟨?_, ?_⟩) rfl rfl (by repeat' first | exact trivial | refine ⟨?_, ?_⟩) (fun _ => ⟨by simp [V.flat, V.flatA, V.flatC, D.flat], flat_nil⟩) ⟨rfl, rfl, rfl⟩
  · have hc9 := not_f hc9
    have h := if_t h hc9
    refine aw_skip ?_
    refine aw_seq ?_
    refine aw_seq ?_
    refine aw_region ?_
    refine awl_val hτ rfl rfl rfl ?_
    refine awl_nil ?_
    refine aw_block ?_
    refine aw_loop (ι := Nat × Int) (fun (m18, v13) => St.of [(0, .d (.sl false (a_.map eSBus))), (1, .d (.sl false (b_.map eSBus))), (5, .d (.int .i64 v13))] [] f167.ntmps 0) (fun (m18, v13) => m_laws_eqBusS_l1 n a_ b_ m18 v13 = some r) (fun x => x.1) (n, (0 : Int)) h (weak_ofP [] (l := [(0, .d (.sl false (a_.map eSBus))), (1, .d (.sl false (b_.map eSBus))), (5, .d (.int .i64 (0 : Int)))]) (objs := []) rfl (by simp) rfl (by repeat' first | exact trivial | refine ⟨?_, ?_⟩) ⟨rfl, trivial, rfl, trivial, rfl, trivial, trivial⟩) ?_
    rintro ⟨m18, v13⟩ h
    replace h : m_laws_eqBusS_l1 n a_ b_ m18 v13 = some r := h
    rcases m18 with _ | m18
    · rw [m_laws_eqBusS_l1] at h; cases h
    rw [m_laws_eqBusS_l1] at h
    refine aw_seq ?_
    refine aw_seq ?_
    refine aw_region ?_
    refine awl_val hτ rfl rfl rfl ?_
    refine awl_val hτ rfl rfl rfl ?_
    refine awl_val hτ (v := .d (.int .i64 (a_.length : Int))) rfl rfl (Eq.trans rfl (or_len (f := eSBus) a_)) ?_
    refine awl_val hτ rfl rfl rfl ?_
    refine awl_nil ?_
    refine aw_cond rfl (fun hc20 => ?_) (fun hc20 => ?_)
    · have h := if_t h hc20
      refine aw_skip ?_
      refine aw_seq ?_
      refine aw_block ?_
      refine aw_seq ?_
      refine any_start ?_
      refine any_val hτ [] 0 rfl rfl rfl rfl rfl ?_
      refine any_val hτ [] 1 rfl rfl rfl rfl rfl ?_
      refine bnd_elim h fun x24 hx24 h => ?_
      refine any_elem hτ [] 2 rfl rfl rfl rfl rfl (getI_some hx24).1 (map_getI hx24) rfl ?_
      refine any_val hτ [] 3 rfl rfl rfl rfl rfl ?_
      refine any_val hτ [] 4 rfl rfl rfl rfl rfl ?_
      refine any_val hτ [] 5 rfl rfl rfl rfl rfl ?_
      refine bnd_elim h fun x25 hx25 h => ?_
      refine any_elem hτ [] 6 rfl rfl rfl rfl rfl (getI_some hx25).1 (map_getI hx25) rfl ?_
      refine any_val hτ [] 7 rfl rfl rfl rfl rfl ?_
      refine bnd_elim h fun x26 hx26 h => ?_
      refine any_callP hτ false [] [] 8 rfl rfl rfl rfl (enterOk func197 rfl rfl) rfl rfl (by simp) ⟨(by repeat' first | exact trivial | refine ⟨?_, ?_⟩), (by repeat' first | exact trivial | refine ⟨?_, ?_⟩), trivial⟩ (by repeat' first | exact trivial | refine ⟨?_, ?_⟩) (laws_eqBus_ok n x24 x25 hx26) trivial ?_
      refine any_val hτ [] 9 rfl rfl rfl rfl rfl ?_
      refine any_done mixed (by kernel_rfl) ?_
      refine aw_weak (weak_ofP [] (l := [(0, .d (.sl false (a_.map eSBus))), (1, .d (.sl false (b_.map eSBus))), (5, .d (.int .i64 v13)), (26, .d (.bool (!x26)))]) (objs := []) rfl (by simp) rfl (by repeat' first | exact trivial | refine ⟨?_, ?_⟩) ⟨rfl, trivial, rfl, trivial, rfl, trivial, rfl, trivial, trivial⟩) ?_
      refine aw_cond rfl (fun hc27 => ?_) (fun hc27 => ?_)
      · have hc27 := not_t hc27
        have h := if_bf h hc27
        refine aw_seq ?_
        refine aw_region ?_
        refine awl_val hτ rfl rfl rfl ?_
        refine awl_nil ?_
        refine aw_weak (weak_ofP [] (l := [(4, .d (.bool false))]) (objs := []) rfl (by simp) rfl (by repeat' first | exact trivial | refine ⟨?_, ?_⟩) ⟨rfl, trivial, trivial⟩) ?_
        refine aw_ret ?_
        have hr := Option.some.inj h
        subst hr
        exact ret_objs (.inr rfl) [] (objs' := []) (new := []) rfl (by simp) (by simp) rfl (by repeat' first | exact trivial | refine ⟨?_, ?_⟩) rfl rfl (by repeat' first | exact trivial | refine ⟨?_, ?_⟩) (fun _ => ⟨by simp [V.flat, V.flatA, V.flatC, D.flat], flat_nil⟩) ⟨rfl, rfl, rfl⟩
      · have hc27 := not_f hc27
        have h := if_bt h hc27
        refine aw_skip ?_
        refine aw_region ?_
        refine awl_val hτ rfl rfl rfl ?_
        refine awl_val hτ rfl rfl rfl ?_
        refine awl_val hτ rfl rfl rfl ?_
        refine awl_nil ?_
        exact ⟨(m18, (w64 (v13 + (1 : Int)))), h, Nat.lt_succ_self m18, (weak_ofP [] (l := [(0, .d (.sl false (a_.map eSBus))), (1, .d (.sl false (b_.map eSBus))), (5, .d (.int .i64 (w64 (v13 + (1 : Int)))))]) (objs := []) rfl (by simp) rfl (by repeat' first | exact trivial | refine ⟨?_, ?_⟩) ⟨rfl, trivial, rfl, trivial, rfl, trivial, trivial⟩)⟩
    · have h := if_f h hc20
      refine aw_exit ?_
      refine aw_seq ?_
      refine aw_region ?_
      refine awl_val hτ rfl rfl rfl ?_
      refine awl_nil ?_
      refine aw_weak (weak_ofP [] (l := [(4, .d (.bool true))]) (objs := []) rfl (by simp) rfl (by repeat' first | exact trivial | refine ⟨?_, ?_⟩) ⟨rfl, trivial, trivial⟩) ?_
      refine aw_ret ?_
      have hr := Option.some.inj h
      subst hr
      exact ret_objs (.inr rfl) [] (objs' := []) (new := []) rfl (by simp) (by simp) rfl (by repeat' first | exact trivial | refine ⟨?_, ?_⟩) rfl rfl (by repeat' first | exact trivial | refine ⟨?_, ?_⟩) (fun _ => ⟨by simp [V.flat, V.flatA, V.flatC, D.flat], flat_nil⟩) ⟨rfl, rfl, rfl⟩
theorem laws_eqBusS_ok (n : Nat) (a_ : List SBus) (b_ : List SBus) {r : Bool} (h : m_laws_eqBusS n a_ b_ = some r) : ACall prog false 167 [.d (.sl false (a_.map eSBus)), .d (.sl false (b_.map eSBus))] [] (fun v o new => v = .d (.bool r) ∧ o = [] ∧ new = []) := laws_eqBusS_ok_fr0 false n a_ b_ h
theorem laws_eqBusS_ok_fr (n : Nat) (a_ : List SBus) (b_ : List SBus) {r : Bool} (h : m_laws_eqBusS n a_ b_ = some r) : ACall prog true 167 [.d (.sl false (a_.map eSBus)), .d (.sl false (b_.map eSBus))] [] (fun v o new => v = .d (.bool r) ∧ o = [] ∧ new = []) := laws_eqBusS_ok_fr0 true n a_ b_ h

def m_laws_eqFeeder (n : Nat) (a_ : SFeeder) (b_ : SFeeder) : Option Bool :=
  (m_laws_eqPhases n a_.Source b_.Source).bind fun x4 =>
  if x4 = true then
    (m_laws_eqBusS n a_.Buses b_.Buses).bind fun x6 =>
    if x6 = true then
      some true
    else
      some false
  else
    some false
theorem laws_eqFeeder_ok_fr0 (fr : Bool) (n : Nat) (a_ : SFeeder) (b_ : SFeeder) {r : Bool} (h : m_laws_eqFeeder n a_ b_ = some r) : ACall prog fr 111 [.agg [.d (.cx .f32 a_.Source.A.re a_.Source.A.im), .d (.cx .f32 a_.Source.B.re a_.Source.B.im), .d (.cx .f32 a_.Source.C.re a_.Source.C.im), .d (.sl false (a_.Buses.map eSBus))], .agg [.d (.cx .f32 b_.Source.A.re b_.Source.A.im), .d (.cx .f32 b_.Source.B.re b_.Source.B.im), .d (.cx .f32 b_.Source.C.re b_.Source.C.im), .d (.sl false (b_.Buses.map eSBus))]] [] (fun v o new => v = .d (.bool r) ∧ o = [] ∧ new = []) := by
  refine acall_of_aw hτ func111 rfl (by simp) (by simp) ?_
  unfold m_laws_eqFeeder at h
  refine aw_seq ?_
  refine aw_region ?_
  refine awl_valH hτ rfl rfl rfl ?_
  refine awl_valH hτ rfl rfl rfl ?_
  refine awl_val hτ rfl rfl rfl ?_
  refine awl_nil ?_
  refine aw_seq ?_
  refine aw_seq ?_
  refine aw_region ?_
  refine awl_val hτ rfl rfl rfl ?_
  refine awl_val hτ rfl rfl rfl ?_
  refine awl_val hτ rfl rfl rfl ?_
  refine awl_val hτ rfl rfl rfl ?_
  refine bnd_elim h fun x4 hx4 h => ?_
  refine awl_callP hτ false [] rfl rfl rfl (enterOk func166 rfl rfl) rfl rfl (by simp) ⟨(by repeat' first | exact trivial | refine ⟨?_, ?_⟩), (by repeat' first | exact trivial | refine ⟨?_, ?_⟩), trivial⟩ (by repeat' first | exact trivial | refine ⟨?_, ?_⟩) (laws_eqPhases_ok n a_.Source b_.Source hx4) ?_
  rintro r0 o0 n0 ⟨rfl, rfl, rfl⟩ -
  refine awl_val hτ rfl rfl rfl ?_
  refine awl_nil ?_
  refine aw_weak (weak_ofP [0, 1] (l := [(2, .ptr 0 0), (3, .ptr 1 0), (10, .d (.bool (!x4)))]) (objs := [.box [.d (.cx .f32 a_.Source.A.re a_.Source.A.im), .d (.cx .f32 a_.Source.B.re a_.Source.B.im), .d (.cx .f32 a_.Source.C.re a_.Source.C.im), .d (.sl false (a_.Buses.map eSBus))], .box [.d (.cx .f32 b_.Source.A.re b_.Source.A.im), .d (.cx .f32 b_.Source.B.re b_.Source.B.im), .d (.cx .f32 b_.Source.C.re b_.Source.C.im), .d (.sl false (b_.Buses.map eSBus))]]) rfl (by simp) rfl (by repeat' first | exact trivial | refine ⟨?_, ?_⟩) ⟨rfl, trivial, rfl, trivial, rfl, trivial, trivial⟩) ?_
  refine aw_cond rfl (fun hc5 => ?_) (fun hc5 => ?_)
  · have hc5 := not_t hc5
    have h := if_bf h hc5
    refine aw_seq ?_
    refine aw_region ?_
    refine awl_val hτ rfl rfl rfl ?_
    refine awl_nil ?_
    refine aw_weak (weak_ofP [] (l := [(4, .d (.bool false))]) (objs := []) rfl (by simp) rfl (by repeat' first | exact trivial | refine ⟨?_, ?_⟩) ⟨rfl, trivial, trivial⟩) ?_
    refine aw_ret ?_
    have hr := Option.some.inj h
    subst hr
    exact ret_objs (.inr rfl) [] (objs' := []) (new := []) rfl (by simp) (by simp) rfl (by repeat' first | exact trivial | refine ⟨?_, ?_⟩) rfl rfl (by repeat' first | exact trivial | refine ⟨?_, ?_⟩) (fun _ => ⟨by simp [V.flat, V.flatA, V.flatC, D.flat], flat_nil⟩) ⟨rfl, rfl, rfl⟩
  · have hc5 := not_f hc5
    have h := if_bt h hc5
    refine aw_skip ?_
    refine aw_seq ?_
    refine aw_seq ?_
    refine aw_region ?_
    refine awl_val hτ rfl rfl rfl ?_
    refine awl_val hτ rfl rfl rfl ?_
    refine awl_val hτ rfl rfl rfl ?_
    refine awl_val hτ rfl rfl rfl ?_
    refine bnd_elim h fun x6 hx6 h => ?_
    refine awl_callP hτ false [] rfl rfl rfl (enterOk func167 rfl rfl) rfl rfl (by simp) ⟨trivial, trivial, trivial⟩ (by repeat' first | exact trivial | refine ⟨?_, ?_⟩) (laws_eqBusS_ok n a_.Buses b_.Buses hx6) ?_
    rintro r0 o0 n0 ⟨rfl, rfl, rfl⟩ -
    refine awl_val hτ rfl rfl rfl ?_
    refine awl_nil ?_
    refine aw_weak (weak_ofP [] (l := [(16, .d (.bool (!x6)))]) (objs := []) rfl (by simp) rfl (by repeat' first | exact trivial | refine ⟨?_, ?_⟩) ⟨rfl, trivial, trivial⟩) ?_
    refine aw_cond rfl (fun hc7 => ?_) (fun hc7 => ?_)
    · have hc7 := not_t hc7
      have h := if_bf h hc7
      refine aw_seq ?_
      refine aw_region ?_
      refine awl_val hτ rfl rfl rfl ?_
      refine awl_nil ?_
      refine aw_weak (weak_ofP [] (l := [(4, .d (.bool false))]) (objs := []) rfl (by simp) rfl (by repeat' first | exact trivial | refine ⟨?_, ?_⟩) ⟨rfl, trivial, trivial⟩) ?_
      refine aw_ret ?_
      have hr := Option.some.inj h
      subst hr
      exact ret_objs (.inr rfl) [] (objs' := []) (new := []) rfl (by simp) (by simp) rfl (by repeat' first | exact trivial | refine ⟨?_, ?_⟩) rfl rfl (by repeat' first | exact trivial | refine ⟨?_, ?_⟩) (fun _ => ⟨by simp [V.flat, V.flatA, V.flatC, D.flat], flat_nil⟩) ⟨rfl, rfl, rfl⟩
    · have hc7 := not_f hc7
      have h := if_bt h hc7
      refine aw_skip ?_
      refine aw_seq ?_
      refine aw_region ?_
      refine awl_val hτ rfl rfl rfl ?_
      refine awl_nil ?_
      refine aw_weak (weak_ofP [] (l := [(4, .d (.bool true))]) (objs := []) rfl (by simp) rfl (by repeat' first | exact trivial | refine ⟨?_, ?_⟩) ⟨rfl, trivial, trivial⟩) ?_
      refine aw_ret ?_
      have hr := Option.some.inj h
      subst hr
      exact ret_objs (.inr rfl) [] (objs' := []) (new := []) rfl (by simp) (by simp) rfl (by repeat' first | exact trivial | refine ⟨?_, ?_⟩) rfl rfl (by repeat' first | exact trivial | refine ⟨?_, ?_⟩) (fun _ => ⟨by simp [V.flat, V.flatA, V.flatC, D.flat], flat_nil⟩) ⟨rfl, rfl, rfl⟩
theorem laws_eqFeeder_ok (n : Nat) (a_ : SFeeder) (b_ : SFeeder) {r : Bool} (h : m_laws_eqFeeder n a_ b_ = some r) : ACall prog false 111 [.agg [.d (.cx .f32 a_.Source.A.re a_.Source.A.im), .d (.cx .f32 a_.Source.B.re a_.Source.B.im), .d (.cx .f32 a_.Source.C.re a_.Source.C.im), .d (.sl false (a_.Buses.map eSBus))], .agg [.d (.cx .f32 b_.Source.A.re b_.Source.A.im), .d (.cx .f32 b_.Source.B.re b_.Source.B.im), .d (.cx .f32 b_.Source.C.re b_.Source.C.im), .d (.sl false (b_.Buses.map eSBus))]] [] (fun v o new => v = .d (.bool r) ∧ o = [] ∧ new = []) := laws_eqFeeder_ok_fr0 false n a_ b_ h
theorem laws_eqFeeder_ok_fr (n : Nat) (a_ : SFeeder) (b_ : SFeeder) {r : Bool} (h : m_laws_eqFeeder n a_ b_ = some r) : ACall prog true 111 [.agg [.d (.cx .f32 a_.Source.A.re a_.Source.A.im), .d (.cx .f32 a_.Source.B.re a_.Source.B.im), .d (.cx .f32 a_.Source.C.re a_.Source.C.im), .d (.sl false (a_.Buses.map eSBus))], .agg [.d (.cx .f32 b_.Source.A.re b_.Source.A.im), .d (.cx .f32 b_.Source.B.re b_.Source.B.im), .d (.cx .f32 b_.Source.C.re b_.Source.C.im), .d (.sl false (b_.Buses.map eSBus))]] [] (fun v o new => v = .d (.bool r) ∧ o = [] ∧ new = []) := laws_eqFeeder_ok_fr0 true n a_ b_ h

def m_laws_eqTap (n : Nat) (a_ : STap) (b_ : STap) : Option Bool :=
  if a_.Bus = b_.Bus then
    if a_.A = b_.A then
      if a_.B = b_.B then
        if a_.C = b_.C then
          (fconv .f32 .f64 a_.Each).bind fun x8 =>
          (fconv .f32 .f64 b_.Each).bind fun x9 =>
          (m_laws_sameFloat n x8 x9).bind fun x10 =>
          if x10 = true then
            some true
          else
            some false
        else
          some false
      else
        some false
    else
      some false
  else
    some false
theorem laws_eqTap_ok_fr0 (fr : Bool) (n : Nat) (a_ : STap) (b_ : STap) {r : Bool} (h : m_laws_eqTap n a_ b_ = some r) : ACall prog fr 168 [.agg [.d (.int .i64 a_.Bus), .d (.int .i64 a_.A), .d (.int .i64 a_.B), .d (.int .i64 a_.C), .d (.fl .f32 a_.Each)], .agg [.d (.int .i64 b_.Bus), .d (.int .i64 b_.A), .d (.int .i64 b_.B), .d (.int .i64 b_.C), .d (.fl .f32 b_.Each)]] [] (fun v o new => v = .d (.bool r) ∧ o = [] ∧ new = []) := by
  refine acall_of_aw hτ func168 rfl (by simp) (by simp) ?_
  unfold m_laws_eqTap at h
  refine aw_seq ?_
  refine aw_region ?_
  refine awl_valH hτ rfl rfl rfl ?_
  refine awl_valH hτ rfl rfl rfl ?_
  refine awl_val hτ rfl rfl rfl ?_
  refine awl_nil ?_
  refine aw_seq ?_
  refine aw_seq ?_
  refine aw_region ?_
  refine awl_val hτ rfl rfl rfl ?_
  refine awl_val hτ rfl rfl rfl ?_
  refine awl_val hτ rfl rfl rfl ?_
  refine awl_val hτ rfl rfl rfl ?_
  refine awl_val hτ (v := .d (.bool (!(decide (a_.Bus = b_.Bus))))) rfl rfl (or_ine _ _) ?_
  refine awl_nil ?_
  refine aw_weak (weak_ofP [0, 1] (l := [(2, .ptr 0 0), (3, .ptr 1 0), (9, .d (.bool (!(decide (a_.Bus = b_.Bus)))))]) (objs := [.box [.d (.int .i64 a_.Bus), .d (.int .i64 a_.A), .d (.int .i64 a_.B), .d (.int .i64 a_.C), .d (.fl .f32 a_.Each)], .box [.d (.int .i64 b_.Bus), .d (.int .i64 b_.A), .d (.int .i64 b_.B), .d (.int .i64 b_.C), .d (.fl .f32 b_.Each)]]) rfl (by simp) rfl (by repeat' first | exact trivial | refine ⟨?_, ?_⟩) ⟨rfl, trivial, rfl, trivial, rfl, trivial, trivial⟩) ?_
  refine aw_cond rfl (fun hc4 => ?_) (fun hc4 => ?_)
  · have hc4 := not_t hc4
    have h := if_f h hc4
    refine aw_seq ?_
    refine aw_region ?_
    refine awl_val hτ rfl rfl rfl ?_
    refine awl_nil ?_
    refine aw_weak (weak_ofP [] (l := [(4, .d (.bool false))]) (objs := []) rfl (by simp) rfl (by repeat' first | exact trivial | refine ⟨?_, ?_⟩) ⟨rfl, trivial, trivial⟩) ?_
    refine aw_ret ?_
    have hr := Option.some.inj h
    subst hr
    exact ret_objs (.inr rfl) [] (objs' := []) (new := []) rfl (by simp) (by simp) rfl (by repeat' first | exact trivial | refine ⟨?_, ?_⟩) rfl rfl (by repeat' first | exact trivial | refine ⟨?_, ?_⟩) (fun _ => ⟨by simp [V.flat, V.flatA, V.flatC, D.flat], flat_nil⟩) ⟨rfl, rfl, rfl⟩
  · have hc4 := not_f hc4
    have h := if_t h hc4
    refine aw_skip ?_
    refine aw_seq ?_
    refine aw_seq ?_
    refine aw_region ?_
    refine awl_val hτ rfl rfl rfl ?_
    refine awl_val hτ rfl rfl rfl ?_
    refine awl_val hτ rfl rfl rfl ?_
    refine awl_val hτ rfl rfl rfl ?_
    refine awl_val hτ (v := .d (.bool (!(decide (a_.A = b_.A))))) rfl rfl (or_ine _ _) ?_
    refine awl_nil ?_
    refine aw_cond rfl (fun hc5 => ?_) (fun hc5 => ?_)
    · have hc5 := not_t hc5
      have h := if_f h hc5
      refine aw_seq ?_
      refine aw_region ?_
      refine awl_val hτ rfl rfl rfl ?_
      refine awl_nil ?_
      refine aw_weak (weak_ofP [] (l := [(4, .d (.bool false))]) (objs := []) rfl (by simp) rfl (by repeat' first | exact trivial | refine ⟨?_, ?_⟩) ⟨rfl, trivial, trivial⟩) ?_
      refine aw_ret ?_
      have hr := Option.some.inj h
      subst hr
      exact ret_objs (.inr rfl) [] (objs' := []) (new := []) rfl (by simp) (by simp) rfl (by repeat' first | exact trivial | refine ⟨?_, ?_⟩) rfl rfl (by repeat' first | exact trivial | refine ⟨?_, ?_⟩) (fun _ => ⟨by simp [V.flat, V.flatA, V.flatC, D.flat], flat_nil⟩) ⟨rfl, rfl, rfl⟩
    · have hc5 := not_f hc5
      have h := if_t h hc5
      refine aw_skip ?_
      refine aw_seq ?_
      refine aw_seq ?_
      refine aw_region ?_
      refine awl_val hτ rfl rfl rfl ?_
      refine awl_val hτ rfl rfl rfl ?_
      refine awl_val hτ rfl rfl rfl ?_
      refine awl_val hτ rfl rfl rfl ?_
      refine awl_val hτ (v := .d (.bool (!(decide (a_.B = b_.B))))) rfl rfl (or_ine _ _) ?_
      refine awl_nil ?_
      refine aw_weak (weak_ofP [0, 1] (l := [(2, .ptr 0 0), (3, .ptr 1 0), (19, .d (.bool (!(decide (a_.B = b_.B)))))]) (objs := [.box [.d (.int .i64 a_.Bus), .d (.int .i64 a_.A), .d (.int .i64 a_.B), .d (.int .i64 a_.C), .d (.fl .f32 a_.Each)], .box [.d (.int .i64 b_.Bus), .d (.int .i64 b_.A), .d (.int .i64 b_.B), .d (.int .i64 b_.C), .d (.fl .f32 b_.Each)]]) rfl (by simp) rfl (by repeat' first | exact trivial | refine ⟨?_, ?_⟩) ⟨rfl, trivial, rfl, trivial, rfl, trivial, trivial⟩) ?_
      refine aw_cond rfl (fun hc6 => ?_) (fun hc6 => ?_)
      · have hc6 := not_t hc6
        have h := if_f h hc6
        refine aw_seq ?_
        refine aw_region ?_
        refine awl_val hτ rfl rfl rfl ?_
        refine awl_nil ?_
        refine aw_weak (weak_ofP [] (l := [(4, .d (.bool false))]) (objs := []) rfl (by simp) rfl (by repeat' first | exact trivial | refine ⟨?_, ?_⟩) ⟨rfl, trivial, trivial⟩) ?_
        refine aw_ret ?_
        have hr := Option.some.inj h
        subst hr
        exact ret_objs (.inr rfl) [] (objs' := []) (new := []) rfl (by simp) (by simp) rfl (by repeat' first | exact trivial | refine ⟨?_, ?_⟩) rfl rfl (by repeat' first | exact trivial | refine ⟨?_, ?_⟩) (fun _ => ⟨by simp [V.flat, V.flatA, V.flatC, D.flat], flat_nil⟩) ⟨rfl, rfl, rfl⟩
      · have hc6 := not_f hc6
        have h := if_t h hc6
        refine aw_skip ?_
        refine aw_seq ?_
        refine aw_seq ?_
        refine aw_region ?_
        refine awl_val hτ rfl rfl rfl ?_
        refine awl_val hτ rfl rfl rfl ?_
        refine awl_val hτ rfl rfl rfl ?_
        refine awl_val hτ rfl rfl rfl ?_
        refine awl_val hτ (v := .d (.bool (!(decide (a_.C = b_.C))))) rfl rfl (or_ine _ _) ?_
        refine awl_nil ?_
        refine aw_cond rfl (fun hc7 => ?_) (fun hc7 => ?_)
        · have hc7 := not_t hc7
          have h := if_f h hc7
          refine aw_seq ?_
          refine aw_region ?_
          refine awl_val hτ rfl rfl rfl ?_
          refine awl_nil ?_
          refine aw_weak (weak_ofP [] (l := [(4, .d (.bool false))]) (objs := []) rfl (by simp) rfl (by repeat' first | exact trivial | refine ⟨?_, ?_⟩) ⟨rfl, trivial, trivial⟩) ?_
          refine aw_ret ?_
          have hr := Option.some.inj h
          subst hr
          exact ret_objs (.inr rfl) [] (objs' := []) (new := []) rfl (by simp) (by simp) rfl (by repeat' first | exact trivial | refine ⟨?_, ?_⟩) rfl rfl (by repeat' first | exact trivial | refine ⟨?_, ?_⟩) (fun _ => ⟨by simp [V.flat, V.flatA, V.flatC, D.flat], flat_nil⟩) ⟨rfl, rfl, rfl⟩
        · have hc7 := not_f hc7
          have h := if_t h hc7
          refine aw_skip ?_
          refine aw_seq ?_
          refine aw_seq ?_
          refine aw_region ?_
          refine awl_val hτ rfl rfl rfl ?_
          refine awl_val hτ rfl rfl rfl ?_
          refine bnd_elim h fun x8 hx8 h => ?_
          refine awl_val hτ (v := .d (.fl .f64 x8)) rfl rfl (conv_val hx8) ?_
          refine awl_val hτ rfl rfl rfl ?_
          refine awl_val hτ rfl rfl rfl ?_
          refine bnd_elim h fun x9 hx9 h => ?_
          refine awl_val hτ (v := .d (.fl .f64 x9)) rfl rfl (conv_val hx9) ?_
          refine bnd_elim h fun x10 hx10 h => ?_
          refine awl_callP hτ false [] rfl rfl rfl (enterOk func198 rfl rfl) rfl rfl (by simp) ⟨trivial, trivial, trivial⟩ (by repeat' first | exact trivial | refine ⟨?_, ?_⟩) (laws_sameFloat_ok n x8 x9 hx10) ?_
          rintro r0 o0 n0 ⟨rfl, rfl, rfl⟩ -
          refine awl_val hτ rfl rfl rfl ?_
          refine awl_nil ?_
          refine aw_weak (weak_ofP [] (l := [(32, .d (.bool (!x10)))]) (objs := []) rfl (by simp) rfl (by repeat' first | exact trivial | refine ⟨?_, ?_⟩) ⟨rfl, trivial, trivial⟩) ?_
          refine aw_cond rfl (fun hc11 => ?_) (fun hc11 => ?_)
          · have hc11 := not_t hc11
            have h := if_bf h hc11
            refine aw_seq ?_
            refine aw_region ?_
            refine awl_val hτ rfl rfl rfl ?_
            refine awl_nil ?_
            refine aw_weak (weak_ofP [] (l := [(4, .d (.bool false))]) (objs := []) rfl (by simp) rfl (by repeat' first | exact trivial | refine ⟨?_, ?_⟩) ⟨rfl, trivial, trivial⟩) ?_
            refine aw_ret ?_
            have hr := Option.some.inj h
            subst hr
            exact ret_objs (.inr rfl) [] (objs' := []) (new := []) rfl (by simp) (by simp) rfl (by repeat' first | exact trivial | refine ⟨?_, ?_⟩) rfl rfl (by repeat' first | exact trivial | refine ⟨?_, ?_⟩) (fun _ => ⟨by simp [V.flat, V.flatA, V.flatC, D.flat], flat_nil⟩) ⟨rfl, rfl, rfl⟩
          · have hc11 := not_f hc11
            have h := if_bt h hc11
            refine aw_skip ?_
            refine aw_seq ?_
            refine aw_region ?_
            refine awl_val hτ rfl rfl rfl ?_
            refine awl_nil ?_
            refine aw_weak (weak_ofP [] (l := [(4, .d (.bool true))]) (objs := []) rfl (by simp) rfl (by repeat' first | exact trivial | refine ⟨?_, ?_⟩) ⟨rfl, trivial, trivial⟩) ?_
            refine aw_ret ?_
            have hr := Option.some.inj h
            subst hr
            exact ret_objs (.inr rfl) [] (objs' := []) (new := []) rfl (by simp) (by simp) rfl (by repeat' first | exact trivial | refine ⟨?_, ?_⟩) rfl rfl (by repeat' first | exact trivial | refine ⟨?_, ?_⟩) (fun _ => ⟨by simp [V.flat, V.flatA, V.flatC, D.flat], flat_nil⟩) ⟨rfl, rfl, rfl⟩
theorem laws_eqTap_ok (n : Nat) (a_ : STap) (b_ : STap) {r : Bool} (h : m_laws_eqTap n a_ b_ = some r) : ACall prog false 168 [.agg [.d (.int .i64 a_.Bus), .d (.int .i64 a_.A), .d (.int .i64 a_.B), .d (.int .i64 a_.C), .d (.fl .f32 a_.Each)], .agg [.d (.int .i64 b_.Bus), .d (.int .i64 b_.A), .d (.int .i64 b_.B), .d (.int .i64 b_.C), .d (.fl .f32 b_.Each)]] [] (fun v o new => v = .d (.bool r) ∧ o = [] ∧ new = []) := laws_eqTap_ok_fr0 false n a_ b_ h
theorem laws_eqTap_ok_fr (n : Nat) (a_ : STap) (b_ : STap) {r : Bool} (h : m_laws_eqTap n a_ b_ = some r) : ACall prog true 168 [.agg [.d (.int .i64 a_.Bus), .d (.int .i64 a_.A), .d (.int .i64 a_.B), .d (.int .i64 a_.C), .d (.fl .f32 a_.Each)], .agg [.d (.int .i64 b_.Bus), .d (.int .i64 b_.A), .d (.int .i64 b_.B), .d (.int .i64 b_.C), .d (.fl .f32 b_.Each)]] [] (fun v o new => v = .d (.bool r) ∧ o = [] ∧ new = []) := laws_eqTap_ok_fr0 true n a_ b_ h

def m_laws_eqTapS_l1 (n : Nat) (a_ : List STap) (b_ : List STap) : Nat → Int → Option Bool
  | 0, _ => none
  | m18 + 1, v13 =>
    if v13 < (a_.length : Int) then
      (getI a_ v13).bind fun x24 =>
      (getI b_ v13).bind fun x25 =>
      (m_laws_eqTap n x24 x25).bind fun x26 =>
      if x26 = true then
        (m_laws_eqTapS_l1 n a_ b_ m18) (w64 (v13 + (1 : Int)))
      else
        some false
    else
      some true
def m_laws_eqTapS (n : Nat) (a_ : List STap) (b_ : List STap) : Option Bool :=
  if (a_.length : Int) = (b_.length : Int) then
    m_laws_eqTapS_l1 n a_ b_ n (0 : Int)
  else
    some false
theorem laws_eqTapS_ok_fr0 (fr : Bool) (n : Nat) (a_ : List STap) (b_ : List STap) {r : Bool} (h : m_laws_eqTapS n a_ b_ = some r) : ACall prog fr 112 [.d (.sl false (a_.map eSTap)), .d (.sl false (b_.map eSTap))] [] (fun v o new => v = .d (.bool r) ∧ o = [] ∧ new = []) := by
  refine acall_of_aw hτ func112 rfl (by simp) (by simp) ?_
  unfold m_laws_eqTapS at h
  refine aw_seq ?_
  refine aw_region ?_
  refine awl_val hτ rfl rfl rfl ?_
  refine awl_nil ?_
  refine aw_seq ?_
  refine aw_seq ?_
  refine aw_region ?_
  refine awl_val hτ rfl rfl rfl ?_
  refine awl_val hτ (v := .d (.int .i64 (a_.length : Int))) rfl rfl (Eq.trans rfl (or_len (f := eSTap) a_)) ?_
  refine awl_val hτ rfl rfl rfl ?_
  refine awl_val hτ (v := .d (.int .i64 (b_.length : Int))) rfl rfl (Eq.trans rfl (or_len (f := eSTap) b_)) ?_
  refine awl_val hτ (v := .d (.bool (!(decide ((a_.length : Int) = (b_.length : Int)))))) rfl rfl (or_ine _ _) ?_
  refine awl_nil ?_
  refine aw_weak (weak_ofP [] (l := [(0, .d (.sl false (a_.map eSTap))), (1, .d (.sl false (b_.map eSTap))), (10, .d (.bool (!(decide ((a_.length : Int) = (b_.length : Int))))))]) (objs := []) rfl (by simp) rfl (by repeat' first | exact trivial | refine ⟨?_, ?_⟩) ⟨rfl, trivial, rfl, trivial, rfl, trivial, trivial⟩) ?_
  refine aw_cond rfl (fun hc9 => ?_) (fun hc9 => ?_)
  · have hc9 := not_t hc9
    have h := if_f h hc9
    refine aw_seq ?_
    refine aw_region ?_
    refine awl_val hτ rfl rfl rfl ?_
    refine awl_nil ?_
    refine aw_weak (weak_ofP [] (l := [(4, .d (.bool false))]) (objs := []) rfl (by simp) rfl (by repeat' first | exact trivial | refine ⟨?_, ?_⟩) ⟨rfl, trivial, trivial⟩) ?_
    refine aw_ret ?_
    have hr := Option.some.inj h
    subst hr
    exact ret_objs (.inr rfl) [] (objs' := []) (new := []) rfl (by simp) (by simp) rfl (by repeat' first | exact trivial | refine ⟨?_, ?_⟩) rfl rfl (by repeat' first | exact trivial | refine ⟨?_, ?_⟩) (fun _ => ⟨by simp [V.flat, V.flatA, V.flatC, D.flat], flat_nil⟩) ⟨rfl, rfl, rfl⟩
  · have hc9 := not_f hc9
    have h := if_t h hc9
    refine aw_skip ?_
    refine aw_seq ?_
    refine aw_seq ?_
    refine aw_region ?_
    refine awl_val hτ rfl rfl rfl ?_
    refine awl_nil ?_
    refine aw_block ?_
    refine aw_loop (ι := Nat × Int) (fun (m18, v13) => St.of [(0, .d (.sl false (a_.map eSTap))), (1, .d (.sl false (b_.map eSTap))), (5, .d (.int .i64 v13))] [] f112.ntmps 0) (fun (m18, v13) => m_laws_eqTapS_l1 n a_ b_ m18 v13 = some r) (fun x => x.1) (n, (0 : Int)) h (weak_ofP [] (l := [(0, .d (.sl false (a_.map eSTap))), (1, .d (.sl false (b_.map eSTap))), (5, .d (.int .i64 (0 : Int)))]) (objs := []) rfl (by simp) rfl (by repeat' first | exact trivial | refine ⟨?_, ?_⟩) ⟨rfl, trivial, rfl, trivial, rfl, trivial, trivial⟩) ?_
    rintro ⟨m18, v13⟩ h
    replace h : m_laws_eqTapS_l1 n a_ b_ m18 v13 = some r := h
    rcases m18 with _ | m18
    · rw [m_laws_eqTapS_l1] at h; cases h
    rw [m_laws_eqTapS_l1] at h
    refine aw_seq ?_
    refine aw_seq ?_
    refine aw_region ?_
    refine awl_val hτ rfl rfl rfl ?_
    refine awl_val hτ rfl rfl rfl ?_
    refine awl_val hτ (v := .d (.int .i64 (a_.length : Int))) rfl rfl (Eq.trans rfl (or_len (f := eSTap) a_)) ?_
    refine awl_val hτ rfl rfl rfl ?_
    refine awl_nil ?_
    refine aw_cond rfl (fun hc20 => ?_) (fun hc20 => ?_)
    · have h := if_t h hc20
      refine aw_skip ?_
      refine aw_seq ?_
      refine aw_block ?_
      refine aw_seq ?_
      refine any_start ?_
      refine any_val hτ [] 0 rfl rfl rfl rfl rfl ?_
      refine any_val hτ [] 1 rfl rfl rfl rfl rfl ?_
      refine bnd_elim h fun x24 hx24 h => ?_
      refine any_elem hτ [] 2 rfl rfl rfl rfl rfl (getI_some hx24).1 (map_getI hx24) rfl ?_
      refine any_val hτ [] 3 rfl rfl rfl rfl rfl ?_
      refine any_val hτ [] 4 rfl rfl rfl rfl rfl ?_
      refine any_val hτ [] 5 rfl rfl rfl rfl rfl ?_
      refine bnd_elim h fun x25 hx25 h => ?_
      refine any_elem hτ [] 6 rfl rfl rfl rfl rfl (getI_some hx25).1 (map_getI hx25) rfl ?_
      refine any_val hτ [] 7 rfl rfl rfl rfl rfl ?_
      refine bnd_elim h fun x26 hx26 h => ?_
      refine any_callP hτ false [] [] 8 rfl rfl rfl rfl (enterOk func168 rfl rfl) rfl rfl (by simp) ⟨(by repeat' first | exact trivial | refine ⟨?_, ?_⟩), (by repeat' first | exact trivial | refine ⟨?_, ?_⟩), trivial⟩ (by repeat' first | exact trivial | refine ⟨?_, ?_⟩) (laws_eqTap_ok n x24 x25 hx26) trivial ?_
      refine any_val hτ [] 9 rfl rfl rfl rfl rfl ?_
      refine any_done mixed (by kernel_rfl) ?_
      refine aw_weak (weak_ofP [] (l := [(0, .d (.sl false (a_.map eSTap))), (1, .d (.sl false (b_.map eSTap))), (5, .d (.int .i64 v13)), (26, .d (.bool (!x26)))]) (objs := []) rfl (by simp) rfl (by repeat' first | exact trivial | refine ⟨?_, ?_⟩) ⟨rfl, trivial, rfl, trivial, rfl, trivial, rfl, trivial, trivial⟩) ?_
      refine aw_cond rfl (fun hc27 => ?_) (fun hc27 => ?_)
      · have hc27 := not_t hc27
        have h := if_bf h hc27
        refine aw_seq ?_
        refine aw_region ?_
        refine awl_val hτ rfl rfl rfl ?_
        refine awl_nil ?_
        refine aw_weak (weak_ofP [] (l := [(4, .d (.bool false))]) (objs := []) rfl (by simp) rfl (by repeat' first | exact trivial | refine ⟨?_, ?_⟩) ⟨rfl, trivial, trivial⟩) ?_
        refine aw_ret ?_
        have hr := Option.some.inj h
        subst hr
        exact ret_objs (.inr rfl) [] (objs' := []) (new := []) rfl (by simp) (by simp) rfl (by repeat' first | exact trivial | refine ⟨?_, ?_⟩) rfl rfl (by repeat' first | exact trivial | refine ⟨?_, ?_⟩) (fun _ => ⟨by simp [V.flat, V.flatA, V.flatC, D.flat], flat_nil⟩) ⟨rfl, rfl, rfl⟩
      · have hc27 := not_f hc27
        have h := if_bt h hc27
        refine aw_skip ?_
        refine aw_region ?_
        refine awl_val hτ rfl rfl rfl ?_
        refine awl_val hτ rfl rfl rfl ?_
        refine awl_val hτ rfl rfl rfl ?_
        refine awl_nil ?_
        exact ⟨(m18, (w64 (v13 + (1 : Int)))), h, Nat.lt_succ_self m18, (weak_ofP [] (l := [(0, .d (.sl false (a_.map eSTap))), (1, .d (.sl false (b_.map eSTap))), (5, .d (.int .i64 (w64 (v13 + (1 : Int)))))]) (objs := []) rfl (by simp) rfl (by repeat' first | exact trivial | refine ⟨?_, ?_⟩) ⟨rfl, trivial, rfl, trivial, rfl, trivial, trivial⟩)⟩
    · have h := if_f h hc20
      refine aw_exit ?_
      refine aw_seq ?_
      refine aw_region ?_
      refine awl_val hτ rfl rfl rfl ?_
      refine awl_nil ?_
      refine aw_weak (weak_ofP [] (l := [(4, .d (.bool true))]) (objs := []) rfl (by simp) rfl (by repeat' first | exact trivial | refine ⟨?_, ?_⟩) ⟨rfl, trivial, trivial⟩) ?_
      refine aw_ret ?_
      have hr := Option.some.inj h
      subst hr
      exact ret_objs (.inr rfl) [] (objs' := []) (new := []) rfl (by simp) (by simp) rfl (by repeat' first | exact trivial | refine ⟨?_, ?_⟩) rfl rfl (by repeat' first | exact trivial | refine ⟨?_, ?_⟩) (fun _ => ⟨by simp [V.flat, V.flatA, V.flatC, D.flat], flat_nil⟩) ⟨rfl, rfl, rfl⟩
theorem laws_eqTapS_ok (n : Nat) (a_ : List STap) (b_ : List STap) {r : Bool} (h : m_laws_eqTapS n a_ b_ = some r) : ACall prog false 112 [.d (.sl false (a_.map eSTap)), .d (.sl false (b_.map eSTap))] [] (fun v o new => v = .d (.bool r) ∧ o = [] ∧ new = []) := laws_eqTapS_ok_fr0 false n a_ b_ h
theorem laws_eqTapS_ok_fr (n : Nat) (a_ : List STap) (b_ : List STap) {r : Bool} (h : m_laws_eqTapS n a_ b_ = some r) : ACall prog true 112 [.d (.sl false (a_.map eSTap)), .d (.sl false (b_.map eSTap))] [] (fun v o new => v = .d (.bool r) ∧ o = [] ∧ new = []) := laws_eqTapS_ok_fr0 true n a_ b_ h

def m_laws_eqOutage (n : Nat) (a_ : SOutage) (b_ : SOutage) : Option Bool :=
  if a_.Bus = b_.Bus then
    if a_.From = b_.From then
      if a_.Until = b_.Until then
        some true
      else
        some false
    else
      some false
  else
    some false
theorem laws_eqOutage_ok_fr0 (fr : Bool) (n : Nat) (a_ : SOutage) (b_ : SOutage) {r : Bool} (h : m_laws_eqOutage n a_ b_ = some r) : ACall prog fr 169 [.agg [.d (.int .i64 a_.Bus), .d (.int .i64 a_.From), .d (.int .i64 a_.Until)], .agg [.d (.int .i64 b_.Bus), .d (.int .i64 b_.From), .d (.int .i64 b_.Until)]] [] (fun v o new => v = .d (.bool r) ∧ o = [] ∧ new = []) := by
  refine acall_of_aw hτ func169 rfl (by simp) (by simp) ?_
  unfold m_laws_eqOutage at h
  refine aw_seq ?_
  refine aw_region ?_
  refine awl_valH hτ rfl rfl rfl ?_
  refine awl_valH hτ rfl rfl rfl ?_
  refine awl_val hτ rfl rfl rfl ?_
  refine awl_nil ?_
  refine aw_seq ?_
  refine aw_seq ?_
  refine aw_region ?_
  refine awl_val hτ rfl rfl rfl ?_
  refine awl_val hτ rfl rfl rfl ?_
  refine awl_val hτ rfl rfl rfl ?_
  refine awl_val hτ rfl rfl rfl ?_
  refine awl_val hτ (v := .d (.bool (!(decide (a_.Bus = b_.Bus))))) rfl rfl (or_ine _ _) ?_
  refine awl_nil ?_
  refine aw_weak (weak_ofP [0, 1] (l := [(2, .ptr 0 0), (3, .ptr 1 0), (9, .d (.bool (!(decide (a_.Bus = b_.Bus)))))]) (objs := [.box [.d (.int .i64 a_.Bus), .d (.int .i64 a_.From), .d (.int .i64 a_.Until)], .box [.d (.int .i64 b_.Bus), .d (.int .i64 b_.From), .d (.int .i64 b_.Until)]]) rfl (by simp) rfl (by repeat' first | exact trivial | refine ⟨?_, ?_⟩) ⟨rfl, trivial, rfl, trivial, rfl, trivial, trivial⟩) ?_
  refine aw_cond rfl (fun hc1 => ?_) (fun hc1 => ?_)
  · have hc1 := not_t hc1
    have h := if_f h hc1
    refine aw_seq ?_
    refine aw_region ?_
    refine awl_val hτ rfl rfl rfl ?_
    refine awl_nil ?_
    refine aw_weak (weak_ofP [] (l := [(4, .d (.bool false))]) (objs := []) rfl (by simp) rfl (by repeat' first | exact trivial | refine ⟨?_, ?_⟩) ⟨rfl, trivial, trivial⟩) ?_
    refine aw_ret ?_
    have hr := Option.some.inj h
    subst hr
    exact ret_objs (.inr rfl) [] (objs' := []) (new := []) rfl (by simp) (by simp) rfl (by repeat' first | exact trivial | refine ⟨?_, ?_⟩) rfl rfl (by repeat' first | exact trivial | refine ⟨?_, ?_⟩) (fun _ => ⟨by simp [V.flat, V.flatA, V.flatC, D.flat], flat_nil⟩) ⟨rfl, rfl, rfl⟩
  · have hc1 := not_f hc1
    have h := if_t h hc1
    refine aw_skip ?_
    refine aw_seq ?_
    refine aw_seq ?_
    refine aw_region ?_
    refine awl_val hτ rfl rfl rfl ?_
    refine awl_val hτ rfl rfl rfl ?_
    refine awl_val hτ rfl rfl rfl ?_
    refine awl_val hτ rfl rfl rfl ?_
    refine awl_val hτ (v := .d (.bool (!(decide (a_.From = b_.From))))) rfl rfl (or_ine _ _) ?_
    refine awl_nil ?_
    refine aw_cond rfl (fun hc2 => ?_) (fun hc2 => ?_)
    · have hc2 := not_t hc2
      have h := if_f h hc2
      refine aw_seq ?_
      refine aw_region ?_
      refine awl_val hτ rfl rfl rfl ?_
      refine awl_nil ?_
      refine aw_weak (weak_ofP [] (l := [(4, .d (.bool false))]) (objs := []) rfl (by simp) rfl (by repeat' first | exact trivial | refine ⟨?_, ?_⟩) ⟨rfl, trivial, trivial⟩) ?_
      refine aw_ret ?_
      have hr := Option.some.inj h
      subst hr
      exact ret_objs (.inr rfl) [] (objs' := []) (new := []) rfl (by simp) (by simp) rfl (by repeat' first | exact trivial | refine ⟨?_, ?_⟩) rfl rfl (by repeat' first | exact trivial | refine ⟨?_, ?_⟩) (fun _ => ⟨by simp [V.flat, V.flatA, V.flatC, D.flat], flat_nil⟩) ⟨rfl, rfl, rfl⟩
    · have hc2 := not_f hc2
      have h := if_t h hc2
      refine aw_skip ?_
      refine aw_seq ?_
      refine aw_seq ?_
      refine aw_region ?_
      refine awl_val hτ rfl rfl rfl ?_
      refine awl_val hτ rfl rfl rfl ?_
      refine awl_val hτ rfl rfl rfl ?_
      refine awl_val hτ rfl rfl rfl ?_
      refine awl_val hτ (v := .d (.bool (!(decide (a_.Until = b_.Until))))) rfl rfl (or_ine _ _) ?_
      refine awl_nil ?_
      refine aw_weak (weak_ofP [] (l := [(19, .d (.bool (!(decide (a_.Until = b_.Until)))))]) (objs := []) rfl (by simp) rfl (by repeat' first | exact trivial | refine ⟨?_, ?_⟩) ⟨rfl, trivial, trivial⟩) ?_
      refine aw_cond rfl (fun hc3 => ?_) (fun hc3 => ?_)
      · have hc3 := not_t hc3
        have h := if_f h hc3
        refine aw_seq ?_
        refine aw_region ?_
        refine awl_val hτ rfl rfl rfl ?_
        refine awl_nil ?_
        refine aw_weak (weak_ofP [] (l := [(4, .d (.bool false))]) (objs := []) rfl (by simp) rfl (by repeat' first | exact trivial | refine ⟨?_, ?_⟩) ⟨rfl, trivial, trivial⟩) ?_
        refine aw_ret ?_
        have hr := Option.some.inj h
        subst hr
        exact ret_objs (.inr rfl) [] (objs' := []) (new := []) rfl (by simp) (by simp) rfl (by repeat' first | exact trivial | refine ⟨?_, ?_⟩) rfl rfl (by repeat' first | exact trivial | refine ⟨?_, ?_⟩) (fun _ => ⟨by simp [V.flat, V.flatA, V.flatC, D.flat], flat_nil⟩) ⟨rfl, rfl, rfl⟩
      · have hc3 := not_f hc3
        have h := if_t h hc3
        refine aw_skip ?_
        refine aw_seq ?_
        refine aw_region ?_
        refine awl_val hτ rfl rfl rfl ?_
        refine awl_nil ?_
        refine aw_weak (weak_ofP [] (l := [(4, .d (.bool true))]) (objs := []) rfl (by simp) rfl (by repeat' first | exact trivial | refine ⟨?_, ?_⟩) ⟨rfl, trivial, trivial⟩) ?_
        refine aw_ret ?_
        have hr := Option.some.inj h
        subst hr
        exact ret_objs (.inr rfl) [] (objs' := []) (new := []) rfl (by simp) (by simp) rfl (by repeat' first | exact trivial | refine ⟨?_, ?_⟩) rfl rfl (by repeat' first | exact trivial | refine ⟨?_, ?_⟩) (fun _ => ⟨by simp [V.flat, V.flatA, V.flatC, D.flat], flat_nil⟩) ⟨rfl, rfl, rfl⟩
theorem laws_eqOutage_ok (n : Nat) (a_ : SOutage) (b_ : SOutage) {r : Bool} (h : m_laws_eqOutage n a_ b_ = some r) : ACall prog false 169 [.agg [.d (.int .i64 a_.Bus), .d (.int .i64 a_.From), .d (.int .i64 a_.Until)], .agg [.d (.int .i64 b_.Bus), .d (.int .i64 b_.From), .d (.int .i64 b_.Until)]] [] (fun v o new => v = .d (.bool r) ∧ o = [] ∧ new = []) := laws_eqOutage_ok_fr0 false n a_ b_ h
theorem laws_eqOutage_ok_fr (n : Nat) (a_ : SOutage) (b_ : SOutage) {r : Bool} (h : m_laws_eqOutage n a_ b_ = some r) : ACall prog true 169 [.agg [.d (.int .i64 a_.Bus), .d (.int .i64 a_.From), .d (.int .i64 a_.Until)], .agg [.d (.int .i64 b_.Bus), .d (.int .i64 b_.From), .d (.int .i64 b_.Until)]] [] (fun v o new => v = .d (.bool r) ∧ o = [] ∧ new = []) := laws_eqOutage_ok_fr0 true n a_ b_ h

def m_laws_eqOutageS_l1 (n : Nat) (a_ : List SOutage) (b_ : List SOutage) : Nat → Int → Option Bool
  | 0, _ => none
  | m18 + 1, v13 =>
    if v13 < (a_.length : Int) then
      (getI a_ v13).bind fun x24 =>
      (getI b_ v13).bind fun x25 =>
      (m_laws_eqOutage n x24 x25).bind fun x26 =>
      if x26 = true then
        (m_laws_eqOutageS_l1 n a_ b_ m18) (w64 (v13 + (1 : Int)))
      else
        some false
    else
      some true
def m_laws_eqOutageS (n : Nat) (a_ : List SOutage) (b_ : List SOutage) : Option Bool :=
  if (a_.length : Int) = (b_.length : Int) then
    m_laws_eqOutageS_l1 n a_ b_ n (0 : Int)
  else
    some false
theorem laws_eqOutageS_ok_fr0 (fr : Bool) (n : Nat) (a_ : List SOutage) (b_ : List SOutage) {r : Bool} (h : m_laws_eqOutageS n a_ b_ = some r) : ACall prog fr 113 [.d (.sl false (a_.map eSOutage)), .d (.sl false (b_.map eSOutage))] [] (fun v o new => v = .d (.bool r) ∧ o = [] ∧ new = []) := by
  refine acall_of_aw hτ func113 rfl (by simp) (by simp) ?_
  unfold m_laws_eqOutageS at h
  refine aw_seq ?_
  refine aw_region ?_
  refine awl_val hτ rfl rfl rfl ?_
  refine awl_nil ?_
  refine aw_seq ?_
  refine aw_seq ?_
  refine aw_region ?_
  refine awl_val hτ rfl rfl rfl ?_
  refine awl_val hτ (v := .d (.int .i64 (a_.length : Int))) rfl rfl (Eq.trans rfl (or_len (f := eSOutage) a_)) ?_
  refine awl_val hτ rfl rfl rfl ?_
  refine awl_val hτ (v := .d (.int .i64 (b_.length : Int))) rfl rfl (Eq.trans rfl (or_len (f := eSOutage) b_)) ?_
  refine awl_val hτ (v := .d (.bool (!(decide ((a_.length : Int) = (b_.length : Int)))))) rfl rfl (or_ine _ _) ?_
  refine awl_nil ?_
  refine aw_weak (weak_ofP [] (l := [(0, .d (.sl false (a_.map eSOutage))), (1, .d (.sl false (b_.map eSOutage))), (10, .d (.bool (!(decide ((a_.length : Int) = (b_.length : Int))))))]) (objs := []) rfl (by simp) rfl (by repeat' first | exact trivial | refine ⟨?_, ?_⟩) ⟨rfl, trivial, rfl, trivial, rfl, trivial, trivial⟩) ?_
  refine aw_cond rfl (fun hc9 => ?_) (fun hc9 => ?_)
  · have hc9 := not_t hc9
    have h := if_f h hc9
    refine aw_seq ?_
    refine aw_region ?_
    refine awl_val hτ rfl rfl rfl ?_
    refine awl_nil ?_
    refine aw_weak (weak_ofP [] (l := [(4, .d (.bool false))]) (objs := []) rfl (by simp) rfl (by repeat' first | exact trivial | refine ⟨?_, ?_⟩) ⟨rfl, trivial, trivial⟩) ?_
    refine aw_ret ?_
    have hr := Option.some.inj h
    subst hr
    exact ret_objs (.inr rfl) [] (objs' := []) (new := []) rfl (by simp) (by simp) rfl (by repeat' first | exact trivial | refine ⟨?_, ?_⟩) rfl rfl (by repeat' first | exact trivial | refine ⟨?_, ?_⟩) (fun _ => ⟨by simp [V.flat, V.flatA, V.flatC, D.flat], flat_nil⟩) ⟨rfl, rfl, rfl⟩
  · have hc9 := not_f hc9
    have h := if_t h hc9
    refine aw_skip ?_
    refine aw_seq ?_
    refine aw_seq ?_
    refine aw_region ?_
    refine awl_val hτ rfl rfl rfl ?_
    refine awl_nil ?_
    refine aw_block ?_
    refine aw_loop (ι := Nat × Int) (fun (m18, v13) => St.of [(0, .d (.sl false (a_.map eSOutage))), (1, .d (.sl false (b_.map eSOutage))), (5, .d (.int .i64 v13))] [] f113.ntmps 0) (fun (m18, v13) => m_laws_eqOutageS_l1 n a_ b_ m18 v13 = some r) (fun x => x.1) (n, (0 : Int)) h (weak_ofP [] (l := [(0, .d (.sl false (a_.map eSOutage))), (1, .d (.sl false (b_.map eSOutage))), (5, .d (.int .i64 (0 : Int)))]) (objs := []) rfl (by simp) rfl (by repeat' first | exact trivial | refine ⟨?_, ?_⟩) ⟨rfl, trivial, rfl, trivial, rfl, trivial, trivial⟩) ?_
    rintro ⟨m18, v13⟩ h
    replace h : m_laws_eqOutageS_l1 n a_ b_ m18 v13 = some r := h
    rcases m18 with _ | m18
    · rw [m_laws_eqOutageS_l1] at h; cases h
    rw [m_laws_eqOutageS_l1] at h
    refine aw_seq ?_
    refine aw_seq ?_
    refine aw_region ?_
    refine awl_val hτ rfl rfl rfl ?_
    refine awl_val hτ rfl rfl rfl ?_
    refine awl_val hτ (v := .d (.int .i64 (a_.length : Int))) rfl rfl (Eq.trans rfl (or_len (f := eSOutage) a_)) ?_
    refine awl_val hτ rfl rfl rfl ?_
    refine awl_nil ?_
    refine aw_cond rfl (fun hc20 => ?_) (fun hc20 => ?_)
    · have h := if_t h hc20
      refine aw_skip ?_
      refine aw_seq ?_
      refine aw_block ?_
      refine aw_seq ?_
      refine any_start ?_
      refine any_val hτ [] 0 rfl rfl rfl rfl rfl ?_
      refine any_val hτ [] 1 rfl rfl rfl rfl rfl ?_
      refine bnd_elim h fun x24 hx24 h => ?_
      refine any_elem hτ [] 2 rfl rfl rfl rfl rfl (getI_some hx24).1 (map_getI hx24) rfl ?_
      refine any_val hτ [] 3 rfl rfl rfl rfl rfl ?_
      refine any_val hτ [] 4 rfl rfl rfl rfl rfl ?_
      refine any_val hτ [] 5 rfl rfl rfl rfl rfl ?_
      refine bnd_elim h fun x25 hx25 h => ?_
      refine any_elem hτ [] 6 rfl rfl rfl rfl rfl (getI_some hx25).1 (map_getI hx25) rfl ?_
      refine any_val hτ [] 7 rfl rfl rfl rfl rfl ?_
      refine bnd_elim h fun x26 hx26 h => ?_
      refine any_callP hτ false [] [] 8 rfl rfl rfl rfl (enterOk func169 rfl rfl) rfl rfl (by simp) ⟨(by repeat' first | exact trivial | refine ⟨?_, ?_⟩), (by repeat' first | exact trivial | refine ⟨?_, ?_⟩), trivial⟩ (by repeat' first | exact trivial | refine ⟨?_, ?_⟩) (laws_eqOutage_ok n x24 x25 hx26) trivial ?_
      refine any_val hτ [] 9 rfl rfl rfl rfl rfl ?_
      refine any_done mixed (by kernel_rfl) ?_
      refine aw_weak (weak_ofP [] (l := [(0, .d (.sl false (a_.map eSOutage))), (1, .d (.sl false (b_.map eSOutage))), (5, .d (.int .i64 v13)), (26, .d (.bool (!x26)))]) (objs := []) rfl (by simp) rfl (by repeat' first | exact trivial | refine ⟨?_, ?_⟩) ⟨rfl, trivial, rfl, trivial, rfl, trivial, rfl, trivial, trivial⟩) ?_
      refine aw_cond rfl (fun hc27 => ?_) (fun hc27 => ?_)
      · have hc27 := not_t hc27
        have h := if_bf h hc27
        refine aw_seq ?_
        refine aw_region ?_
        refine awl_val hτ rfl rfl rfl ?_
        refine awl_nil ?_
        refine aw_weak (weak_ofP [] (l := [(4, .d (.bool false))]) (objs := []) rfl (by simp) rfl (by repeat' first | exact trivial | refine ⟨?_, ?_⟩) ⟨rfl, trivial, trivial⟩) ?_
        refine aw_ret ?_
        have hr := Option.some.inj h
        subst hr
        exact ret_objs (.inr rfl) [] (objs' := []) (new := []) rfl (by simp) (by simp) rfl (by repeat' first | exact trivial | refine ⟨?_, ?_⟩) rfl rfl (by repeat' first | exact trivial | refine ⟨?_, ?_⟩) (fun _ => ⟨by simp [V.flat, V.flatA, V.flatC, D.flat], flat_nil⟩) ⟨rfl, rfl, rfl⟩
      · have hc27 := not_f hc27
        have h := if_bt h hc27
        refine aw_skip ?_
        refine aw_region ?_
        refine awl_val hτ rfl rfl rfl ?_
        refine awl_val hτ rfl rfl rfl ?_
        refine awl_val hτ rfl rfl rfl ?_
        refine awl_nil ?_
        exact ⟨(m18, (w64 (v13 + (1 : Int)))), h, Nat.lt_succ_self m18, (weak_ofP [] (l := [(0, .d (.sl false (a_.map eSOutage))), (1, .d (.sl false (b_.map eSOutage))), (5, .d (.int .i64 (w64 (v13 + (1 : Int)))))]) (objs := []) rfl (by simp) rfl (by repeat' first | exact trivial | refine ⟨?_, ?_⟩) ⟨rfl, trivial, rfl, trivial, rfl, trivial, trivial⟩)⟩
    · have h := if_f h hc20
      refine aw_exit ?_
      refine aw_seq ?_
      refine aw_region ?_
      refine awl_val hτ rfl rfl rfl ?_
      refine awl_nil ?_
      refine aw_weak (weak_ofP [] (l := [(4, .d (.bool true))]) (objs := []) rfl (by simp) rfl (by repeat' first | exact trivial | refine ⟨?_, ?_⟩) ⟨rfl, trivial, trivial⟩) ?_
      refine aw_ret ?_
      have hr := Option.some.inj h
      subst hr
      exact ret_objs (.inr rfl) [] (objs' := []) (new := []) rfl (by simp) (by simp) rfl (by repeat' first | exact trivial | refine ⟨?_, ?_⟩) rfl rfl (by repeat' first | exact trivial | refine ⟨?_, ?_⟩) (fun _ => ⟨by simp [V.flat, V.flatA, V.flatC, D.flat], flat_nil⟩) ⟨rfl, rfl, rfl⟩
theorem laws_eqOutageS_ok (n : Nat) (a_ : List SOutage) (b_ : List SOutage) {r : Bool} (h : m_laws_eqOutageS n a_ b_ = some r) : ACall prog false 113 [.d (.sl false (a_.map eSOutage)), .d (.sl false (b_.map eSOutage))] [] (fun v o new => v = .d (.bool r) ∧ o = [] ∧ new = []) := laws_eqOutageS_ok_fr0 false n a_ b_ h
theorem laws_eqOutageS_ok_fr (n : Nat) (a_ : List SOutage) (b_ : List SOutage) {r : Bool} (h : m_laws_eqOutageS n a_ b_ = some r) : ACall prog true 113 [.d (.sl false (a_.map eSOutage)), .d (.sl false (b_.map eSOutage))] [] (fun v o new => v = .d (.bool r) ∧ o = [] ∧ new = []) := laws_eqOutageS_ok_fr0 true n a_ b_ h

def m_laws_eqDesk (n : Nat) (a_ : SDesk) (b_ : SDesk) : Option Bool :=
  (m_laws_eqFeeder n a_.Feeder b_.Feeder).bind fun x5 =>
  if x5 = true then
    (m_laws_eqTapS n a_.Taps b_.Taps).bind fun x8 =>
    if x8 = true then
      (m_laws_eqOutageS n a_.List b_.List).bind fun x10 =>
      if x10 = true then
        some true
      else
        some false
    else
      some false
  else
    some false
theorem laws_eqDesk_ok_fr0 (fr : Bool) (n : Nat) (a_ : SDesk) (b_ : SDesk) {r : Bool} (h : m_laws_eqDesk n a_ b_ = some r) : ACall prog fr 48 [.agg [.d (.cx .f32 a_.Feeder.Source.A.re a_.Feeder.Source.A.im), .d (.cx .f32 a_.Feeder.Source.B.re a_.Feeder.Source.B.im), .d (.cx .f32 a_.Feeder.Source.C.re a_.Feeder.Source.C.im), .d (.sl false (a_.Feeder.Buses.map eSBus)), .d (.sl false (a_.Taps.map eSTap)), .d (.sl false (a_.List.map eSOutage))], .agg [.d (.cx .f32 b_.Feeder.Source.A.re b_.Feeder.Source.A.im), .d (.cx .f32 b_.Feeder.Source.B.re b_.Feeder.Source.B.im), .d (.cx .f32 b_.Feeder.Source.C.re b_.Feeder.Source.C.im), .d (.sl false (b_.Feeder.Buses.map eSBus)), .d (.sl false (b_.Taps.map eSTap)), .d (.sl false (b_.List.map eSOutage))]] [] (fun v o new => v = .d (.bool r) ∧ o = [] ∧ new = []) := by
  refine acall_of_aw hτ func48 rfl (by simp) (by simp) ?_
  unfold m_laws_eqDesk at h
  refine aw_seq ?_
  refine aw_region ?_
  refine awl_valH hτ rfl rfl rfl ?_
  refine awl_valH hτ rfl rfl rfl ?_
  refine awl_val hτ rfl rfl rfl ?_
  refine awl_nil ?_
  refine aw_seq ?_
  refine aw_seq ?_
  refine aw_region ?_
  refine awl_val hτ rfl rfl rfl ?_
  refine awl_val hτ rfl rfl rfl ?_
  refine awl_val hτ rfl rfl rfl ?_
  refine awl_val hτ rfl rfl rfl ?_
  refine bnd_elim h fun x5 hx5 h => ?_
  refine awl_callP hτ false [] rfl rfl rfl (enterOk func111 rfl rfl) rfl rfl (by simp) ⟨(by repeat' first | exact trivial | refine ⟨?_, ?_⟩), (by repeat' first | exact trivial | refine ⟨?_, ?_⟩), trivial⟩ (by repeat' first | exact trivial | refine ⟨?_, ?_⟩) (laws_eqFeeder_ok n a_.Feeder b_.Feeder hx5) ?_
  rintro r0 o0 n0 ⟨rfl, rfl, rfl⟩ -
  refine awl_val hτ rfl rfl rfl ?_
  refine awl_nil ?_
  refine aw_weak (weak_ofP [0, 1] (l := [(2, .ptr 0 0), (3, .ptr 1 0), (10, .d (.bool (!x5)))]) (objs := [.box [.d (.cx .f32 a_.Feeder.Source.A.re a_.Feeder.Source.A.im), .d (.cx .f32 a_.Feeder.Source.B.re a_.Feeder.Source.B.im), .d (.cx .f32 a_.Feeder.Source.C.re a_.Feeder.Source.C.im), .d (.sl false (a_.Feeder.Buses.map eSBus)), .d (.sl false (a_.Taps.map eSTap)), .d (.sl false (a_.List.map eSOutage))], .box [.d (.cx .f32 b_.Feeder.Source.A.re b_.Feeder.Source.A.im), .d (.cx .f32 b_.Feeder.Source.B.re b_.Feeder.Source.B.im), .d (.cx .f32 b_.Feeder.Source.C.re b_.Feeder.Source.C.im), .d (.sl false (b_.Feeder.Buses.map eSBus)), .d (.sl false (b_.Taps.map eSTap)), .d (.sl false (b_.List.map eSOutage))]]) rfl (by simp) rfl (by repeat' first | exact trivial | refine ⟨?_, ?_⟩) ⟨rfl, trivial, rfl, trivial, rfl, trivial, trivial⟩) ?_
  refine aw_cond rfl (fun hc6 => ?_) (fun hc6 => ?_)
  · have hc6 := not_t hc6
    have h := if_bf h hc6
    refine aw_seq ?_
    refine aw_region ?_
    refine awl_val hτ rfl rfl rfl ?_
    refine awl_nil ?_
    refine aw_weak (weak_ofP [] (l := [(4, .d (.bool false))]) (objs := []) rfl (by simp) rfl (by repeat' first | exact trivial | refine ⟨?_, ?_⟩) ⟨rfl, trivial, trivial⟩) ?_
    refine aw_ret ?_
    have hr := Option.some.inj h
    subst hr
    exact ret_objs (.inr rfl) [] (objs' := []) (new := []) rfl (by simp) (by simp) rfl (by repeat' first | exact trivial | refine ⟨?_, ?_⟩) rfl rfl (by repeat' first | exact trivial | refine ⟨?_, ?_⟩) (fun _ => ⟨by simp [V.flat, V.flatA, V.flatC, D.flat], flat_nil⟩) ⟨rfl, rfl, rfl⟩
  · have hc6 := not_f hc6
    have h := if_bt h hc6
    refine aw_skip ?_
    refine aw_seq ?_
    refine aw_seq ?_
    refine aw_region ?_
    refine awl_val hτ rfl rfl rfl ?_
    refine awl_val hτ rfl rfl rfl ?_
    refine awl_val hτ rfl rfl rfl ?_
    refine awl_val hτ rfl rfl rfl ?_
    refine bnd_elim h fun x8 hx8 h => ?_
    refine awl_callP hτ false [] rfl rfl rfl (enterOk func112 rfl rfl) rfl rfl (by simp) ⟨trivial, trivial, trivial⟩ (by repeat' first | exact trivial | refine ⟨?_, ?_⟩) (laws_eqTapS_ok n a_.Taps b_.Taps hx8) ?_
    rintro r0 o0 n0 ⟨rfl, rfl, rfl⟩ -
    refine awl_val hτ rfl rfl rfl ?_
    refine awl_nil ?_
    refine aw_weak (weak_ofP [0, 1] (l := [(2, .ptr 0 0), (3, .ptr 1 0), (16, .d (.bool (!x8)))]) (objs := [.box [.d (.cx .f32 a_.Feeder.Source.A.re a_.Feeder.Source.A.im), .d (.cx .f32 a_.Feeder.Source.B.re a_.Feeder.Source.B.im), .d (.cx .f32 a_.Feeder.Source.C.re a_.Feeder.Source.C.im), .d (.sl false (a_.Feeder.Buses.map eSBus)), .d (.sl false (a_.Taps.map eSTap)), .d (.sl false (a_.List.map eSOutage))], .box [.d (.cx .f32 b_.Feeder.Source.A.re b_.Feeder.Source.A.im), .d (.cx .f32 b_.Feeder.Source.B.re b_.Feeder.Source.B.im), .d (.cx .f32 b_.Feeder.Source.C.re b_.Feeder.Source.C.im), .d (.sl false (b_.Feeder.Buses.map eSBus)), .d (.sl false (b_.Taps.map eSTap)), .d (.sl false (b_.List.map eSOutage))]]) rfl (by simp) rfl (by repeat' first | exact trivial | refine ⟨?_, ?_⟩) ⟨rfl, trivial, rfl, trivial, rfl, trivial, trivial⟩) ?_
    refine aw_cond rfl (fun hc9 => ?_) (fun hc9 => ?_)
    · have hc9 := not_t hc9
      have h := if_bf h hc9
      refine aw_seq ?_
      refine aw_region ?_
      refine awl_val hτ rfl rfl rfl ?_
      refine awl_nil ?_
      refine aw_weak (weak_ofP [] (l := [(4, .d (.bool false))]) (objs := []) rfl (by simp) rfl (by repeat' first | exact trivial | refine ⟨?_, ?_⟩) ⟨rfl, trivial, trivial⟩) ?_
      refine aw_ret ?_
      have hr := Option.some.inj h
      subst hr
      exact ret_objs (.inr rfl) [] (objs' := []) (new := []) rfl (by simp) (by simp) rfl (by repeat' first | exact trivial | refine ⟨?_, ?_⟩) rfl rfl (by repeat' first | exact trivial | refine ⟨?_, ?_⟩) (fun _ => ⟨by simp [V.flat, V.flatA, V.flatC, D.flat], flat_nil⟩) ⟨rfl, rfl, rfl⟩
    · have hc9 := not_f hc9
      have h := if_bt h hc9
      refine aw_skip ?_
      refine aw_seq ?_
      refine aw_seq ?_
      refine aw_region ?_
      refine awl_val hτ rfl rfl rfl ?_
      refine awl_val hτ rfl rfl rfl ?_
      refine awl_val hτ rfl rfl rfl ?_
      refine awl_val hτ rfl rfl rfl ?_
      refine bnd_elim h fun x10 hx10 h => ?_
      refine awl_callP hτ false [] rfl rfl rfl (enterOk func113 rfl rfl) rfl rfl (by simp) ⟨trivial, trivial, trivial⟩ (by repeat' first | exact trivial | refine ⟨?_, ?_⟩) (laws_eqOutageS_ok n a_.List b_.List hx10) ?_
      rintro r0 o0 n0 ⟨rfl, rfl, rfl⟩ -
      refine awl_val hτ rfl rfl rfl ?_
      refine awl_nil ?_
      refine aw_weak (weak_ofP [] (l := [(22, .d (.bool (!x10)))]) (objs := []) rfl (by simp) rfl (by repeat' first | exact trivial | refine ⟨?_, ?_⟩) ⟨rfl, trivial, trivial⟩) ?_
      refine aw_cond rfl (fun hc11 => ?_) (fun hc11 => ?_)
      · have hc11 := not_t hc11
        have h := if_bf h hc11
        refine aw_seq ?_
        refine aw_region ?_
        refine awl_val hτ rfl rfl rfl ?_
        refine awl_nil ?_
        refine aw_weak (weak_ofP [] (l := [(4, .d (.bool false))]) (objs := []) rfl (by simp) rfl (by repeat' first | exact trivial | refine ⟨?_, ?_⟩) ⟨rfl, trivial, trivial⟩) ?_
        refine aw_ret ?_
        have hr := Option.some.inj h
        subst hr
        exact ret_objs (.inr rfl) [] (objs' := []) (new := []) rfl (by simp) (by simp) rfl (by repeat' first | exact trivial | refine ⟨?_, ?_⟩) rfl rfl (by repeat' first | exact trivial | refine ⟨?_, ?_⟩) (fun _ => ⟨by simp [V.flat, V.flatA, V.flatC, D.flat], flat_nil⟩) ⟨rfl, rfl, rfl⟩
      · have hc11 := not_f hc11
        have h := if_bt h hc11
        refine aw_skip ?_
        refine aw_seq ?_
        refine aw_region ?_
        refine awl_val hτ rfl rfl rfl ?_
        refine awl_nil ?_
        refine aw_weak (weak_ofP [] (l := [(4, .d (.bool true))]) (objs := []) rfl (by simp) rfl (by repeat' first | exact trivial | refine ⟨?_, ?_⟩) ⟨rfl, trivial, trivial⟩) ?_
        refine aw_ret ?_
        have hr := Option.some.inj h
        subst hr
        exact ret_objs (.inr rfl) [] (objs' := []) (new := []) rfl (by simp) (by simp) rfl (by repeat' first | exact trivial | refine ⟨?_, ?_⟩) rfl rfl (by repeat' first | exact trivial | refine ⟨?_, ?_⟩) (fun _ => ⟨by simp [V.flat, V.flatA, V.flatC, D.flat], flat_nil⟩) ⟨rfl, rfl, rfl⟩
theorem laws_eqDesk_ok (n : Nat) (a_ : SDesk) (b_ : SDesk) {r : Bool} (h : m_laws_eqDesk n a_ b_ = some r) : ACall prog false 48 [.agg [.d (.cx .f32 a_.Feeder.Source.A.re a_.Feeder.Source.A.im), .d (.cx .f32 a_.Feeder.Source.B.re a_.Feeder.Source.B.im), .d (.cx .f32 a_.Feeder.Source.C.re a_.Feeder.Source.C.im), .d (.sl false (a_.Feeder.Buses.map eSBus)), .d (.sl false (a_.Taps.map eSTap)), .d (.sl false (a_.List.map eSOutage))], .agg [.d (.cx .f32 b_.Feeder.Source.A.re b_.Feeder.Source.A.im), .d (.cx .f32 b_.Feeder.Source.B.re b_.Feeder.Source.B.im), .d (.cx .f32 b_.Feeder.Source.C.re b_.Feeder.Source.C.im), .d (.sl false (b_.Feeder.Buses.map eSBus)), .d (.sl false (b_.Taps.map eSTap)), .d (.sl false (b_.List.map eSOutage))]] [] (fun v o new => v = .d (.bool r) ∧ o = [] ∧ new = []) := laws_eqDesk_ok_fr0 false n a_ b_ h
theorem laws_eqDesk_ok_fr (n : Nat) (a_ : SDesk) (b_ : SDesk) {r : Bool} (h : m_laws_eqDesk n a_ b_ = some r) : ACall prog true 48 [.agg [.d (.cx .f32 a_.Feeder.Source.A.re a_.Feeder.Source.A.im), .d (.cx .f32 a_.Feeder.Source.B.re a_.Feeder.Source.B.im), .d (.cx .f32 a_.Feeder.Source.C.re a_.Feeder.Source.C.im), .d (.sl false (a_.Feeder.Buses.map eSBus)), .d (.sl false (a_.Taps.map eSTap)), .d (.sl false (a_.List.map eSOutage))], .agg [.d (.cx .f32 b_.Feeder.Source.A.re b_.Feeder.Source.A.im), .d (.cx .f32 b_.Feeder.Source.B.re b_.Feeder.Source.B.im), .d (.cx .f32 b_.Feeder.Source.C.re b_.Feeder.Source.C.im), .d (.sl false (b_.Feeder.Buses.map eSBus)), .d (.sl false (b_.Taps.map eSTap)), .d (.sl false (b_.List.map eSOutage))]] [] (fun v o new => v = .d (.bool r) ∧ o = [] ∧ new = []) := laws_eqDesk_ok_fr0 true n a_ b_ h

end Go.Proofs.Ytkagbffdmppbhaa.AWN
