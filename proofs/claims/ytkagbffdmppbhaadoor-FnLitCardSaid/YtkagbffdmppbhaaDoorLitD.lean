/- Models and contracts, printed by program. -/
import Derived.Test.YtkagbffdmppbhaaDoorLitC
set_option linter.unusedVariables false
set_option linter.unusedSimpArgs false
set_option linter.unusedSectionVars false
set_option maxHeartbeats 2000000
namespace Go.Proofs.YtkagbffdmppbhaaDoor.AWN
open Go Go.Proofs.Tryd

def m_laws_FnLit_j5 (n : Nat) (v151 : List Int) (x152 : List Int × Bool) (x157 : List Int × Bool) (v207 : Int) (x230 : Int × Bool) : Option Bool :=
  if x230.2 = true then
    if v207 = (x152.1.length : Int) then
      some (decide ((x157.1.length : Int) = (v151.length : Int)))
    else
      some false
  else
    some false
def m_laws_FnLit_j7 (n : Nat) (k271 : Int → Option Bool) (v260 : Int) : Option Bool :=
  k271 (w64 (v260 + (1 : Int)))
def m_laws_FnLit_j8 (n : Nat) (k271 : Int → Option Bool) (v260 : Int) (v290 : Bool) : Option Bool :=
  if v290 = true then
    some false
  else
    m_laws_FnLit_j7 n k271 v260
def m_laws_FnLit_l6 (n : Nat) (x126 : SGrid) (x130 : Int) (v151 : List Int) (x152 : List Int × Bool) (x157 : List Int × Bool) (v207 : Int) (x230 : Int × Bool) : Nat → Int → Option Bool
  | 0, _ => none
  | m270 + 1, v260 =>
    if v260 < (v151.length : Int) then
      grd (0 ≤ (0 : Int) ∧ (0 : Int) ≤ v260 ∧ v260 ≤ (v151.length : Int) ∧ 0 < v151.length) <|
      grd (0 ≤ (w64 (v260 + (1 : Int))) ∧ (w64 (v260 + (1 : Int))) ≤ (v151.length : Int) ∧ (v151.length : Int) ≤ (v151.length : Int) ∧ 0 < v151.length) <|
      grd (room (([] : List Int).length + (((v151).drop (0 + (0 : Int).toNat)).take (v260.toNat - (0 : Int).toNat)).length) 8) <|
      grd (room ((([] : List Int) ++ (((v151).drop (0 + (0 : Int).toNat)).take (v260.toNat - (0 : Int).toNat))).length + (((v151).drop (0 + (w64 (v260 + (1 : Int))).toNat)).take ((v151.length : Int).toNat - (w64 (v260 + (1 : Int))).toNat)).length) 8) <|
      (m_impl_CustomersLit n x126 (w64 ((1 : Int) + x130)) ((([] : List Int) ++ (((v151).drop (0 + (0 : Int).toNat)).take (v260.toNat - (0 : Int).toNat))) ++ (((v151).drop (0 + (w64 (v260 + (1 : Int))).toNat)).take ((v151.length : Int).toNat - (w64 (v260 + (1 : Int))).toNat)))).bind fun x286 =>
      if x286.2 = true then
        (getI x157.1 v260).bind fun x294 =>
        m_laws_FnLit_j8 n (m_laws_FnLit_l6 n x126 x130 v151 x152 x157 v207 x230 m270) v260 (!(decide (x294 = (w64 (x230.1 - x286.1)))))
      else
        m_laws_FnLit_j8 n (m_laws_FnLit_l6 n x126 x130 v151 x152 x157 v207 x230 m270) v260 true
    else
      m_laws_FnLit_j5 n v151 x152 x157 v207 x230
def m_laws_FnLit_j4 (n : Nat) (x126 : SGrid) (x130 : Int) (v151 : List Int) (x152 : List Int × Bool) (x156 : Bool × Bool) (x157 : List Int × Bool) (v207 : Int) : Option Bool :=
  if x156.1 = true then
    if v207 = (x152.1.length : Int) then
      some (decide ((x157.1.length : Int) = (0 : Int)))
    else
      some false
  else
    (m_impl_CustomersLit n x126 (w64 ((1 : Int) + x130)) v151).bind fun x230 =>
    m_laws_FnLit_l6 n x126 x130 v151 x152 x157 v207 x230 n (0 : Int)
def m_laws_FnLit_j10 (n : Nat) (k315 : Int → Option Bool) (v304 : Int) : Option Bool :=
  k315 (w64 (v304 + (1 : Int)))
def m_laws_FnLit_j11 (n : Nat) (k315 : Int → Option Bool) (v304 : Int) (v334 : Bool) : Option Bool :=
  if v334 = true then
    some false
  else
    m_laws_FnLit_j10 n k315 v304
def m_laws_FnLit_l9 (n : Nat) (x126 : SGrid) (x130 : Int) (v151 : List Int) (x152 : List Int × Bool) (x154 : List Int × Bool) (x155 : List Int × Bool) (x156 : Bool × Bool) (x157 : List Int × Bool) (v207 : Int) : Nat → Int → Option Bool
  | 0, _ => none
  | m314 + 1, v304 =>
    if v304 < (x126.Feeder.Buses.length : Int) then
      (m_laws_r8In n x155.1 v304).bind fun x337 =>
      (m_laws_r8In n x152.1 v304).bind fun x338 =>
      if (x337 == x338) = true then
        m_laws_FnLit_j11 n (m_laws_FnLit_l9 n x126 x130 v151 x152 x154 x155 x156 x157 v207 m314) v304 true
      else
        (m_laws_r8In n x155.1 v304).bind fun x340 =>
        if x340 = true then
          (m_laws_r8In n x154.1 v304).bind fun x342 =>
          m_laws_FnLit_j11 n (m_laws_FnLit_l9 n x126 x130 v151 x152 x154 x155 x156 x157 v207 m314) v304 (!x342)
        else
          m_laws_FnLit_j11 n (m_laws_FnLit_l9 n x126 x130 v151 x152 x154 x155 x156 x157 v207 m314) v304 false
    else
      m_laws_FnLit_j4 n x126 x130 v151 x152 x156 x157 v207
def m_laws_FnLit_j3 (n : Nat) (x126 : SGrid) (x130 : Int) (v151 : List Int) (x152 : List Int × Bool) (x154 : List Int × Bool) (x155 : List Int × Bool) (x156 : Bool × Bool) (x157 : List Int × Bool) (v207 : Int) : Option Bool :=
  m_laws_FnLit_l9 n x126 x130 v151 x152 x154 x155 x156 x157 v207 n (0 : Int)
def m_laws_FnLit_j13 (n : Nat) (k385 : Int → Int → Option Bool) (v363 : Int) (v405 : Int) : Option Bool :=
  k385 v405 (w64 (v363 + (1 : Int)))
def m_laws_FnLit_j15 (n : Nat) (k426 : Int → Option Bool) (v415 : Int) : Option Bool :=
  k426 (w64 (v415 + (1 : Int)))
def m_laws_FnLit_j16 (n : Nat) (k426 : Int → Option Bool) (v415 : Int) (v445 : Bool) : Option Bool :=
  if v445 = true then
    some false
  else
    m_laws_FnLit_j15 n k426 v415
def m_laws_FnLit_l14 (n : Nat) (x152 : List Int × Bool) (x153 : List (List Int) × Bool) (x154 : List Int × Bool) (k385 : Int → Int → Option Bool) (v362 : Int) (v363 : Int) (x407 : List Int) : Nat → Int → Option Bool
  | 0, _ => none
  | m425 + 1, v415 =>
    (getI x153.1 v363).bind fun x428 =>
    if v415 < (x428.length : Int) then
      (getI x428 v415).bind fun x448 =>
      (m_laws_r8In n x152.1 x448).bind fun x449 =>
      if x449 = true then
        (getI x428 (0 : Int)).bind fun x451 =>
        (m_laws_r8In n x154.1 x448).bind fun x452 =>
        (m_laws_r8In n x154.1 x451).bind fun x453 =>
        m_laws_FnLit_j16 n (m_laws_FnLit_l14 n x152 x153 x154 k385 v362 v363 x407 m425) v415 (!(x452 == x453))
      else
        m_laws_FnLit_j16 n (m_laws_FnLit_l14 n x152 x153 x154 k385 v362 v363 x407 m425) v415 true
    else
      m_laws_FnLit_j13 n k385 v363 (w64 (v362 + (x407.length : Int)))
def m_laws_FnLit_l12 (n : Nat) (x126 : SGrid) (x130 : Int) (v151 : List Int) (x152 : List Int × Bool) (x153 : List (List Int) × Bool) (x154 : List Int × Bool) (x155 : List Int × Bool) (x156 : Bool × Bool) (x157 : List Int × Bool) : Nat → Int → Int → Option Bool
  | 0, _, _ => none
  | m384 + 1, v362, v363 =>
    if v363 < (x153.1.length : Int) then
      (getI x153.1 v363).bind fun x407 =>
      m_laws_FnLit_l14 n x152 x153 x154 (m_laws_FnLit_l12 n x126 x130 v151 x152 x153 x154 x155 x156 x157 m384) v362 v363 x407 n (0 : Int)
    else
      m_laws_FnLit_j3 n x126 x130 v151 x152 x154 x155 x156 x157 v362
def m_laws_FnLit_j2 (n : Nat) (x126 : SGrid) (x130 : Int) (v151 : List Int) (x152 : List Int × Bool) (x153 : List (List Int) × Bool) (x154 : List Int × Bool) (x155 : List Int × Bool) (x156 : Bool × Bool) (x157 : List Int × Bool) : Option Bool :=
  m_laws_FnLit_l12 n x126 x130 v151 x152 x153 x154 x155 x156 x157 n (1 : Int) (0 : Int)
def m_laws_FnLit_j17 (n : Nat) (x126 : SGrid) (x130 : Int) (v151 : List Int) (x152 : List Int × Bool) (x153 : List (List Int) × Bool) (x154 : List Int × Bool) (x155 : List Int × Bool) (x156 : Bool × Bool) (x157 : List Int × Bool) (v464 : Bool) : Option Bool :=
  if v464 = true then
    some false
  else
    m_laws_FnLit_j2 n x126 x130 v151 x152 x153 x154 x155 x156 x157
def m_laws_FnLit_j1 (n : Nat) (x126 : SGrid) (x130 : Int) (v151 : List Int) : Option Bool :=
  (m_impl_DarkAfter n (SGrid.mk (SFeeder.mk x126.Feeder.Source x126.Feeder.Buses) x126.Ties) (w64 ((1 : Int) + x130))).bind fun x152 =>
  (m_impl_PartsAfter n x126 (w64 ((1 : Int) + x130))).bind fun x153 =>
  (m_impl_LitAfter n x126 (w64 ((1 : Int) + x130)) v151).bind fun x154 =>
  (m_impl_LitAfter n x126 (w64 ((1 : Int) + x130)) ([] : List Int)).bind fun x155 =>
  (m_impl_HasLoop n x126 (w64 ((1 : Int) + x130)) v151).bind fun x156 =>
  (m_impl_BehindTies n x126 (w64 ((1 : Int) + x130)) v151).bind fun x157 =>
  if x152.2 = true then
    if x153.2 = true then
      if x154.2 = true then
        if x155.2 = true then
          if x156.2 = true then
            if (x157.2 == x156.1) = true then
              m_laws_FnLit_j17 n x126 x130 v151 x152 x153 x154 x155 x156 x157 true
            else
              (m_laws_r8In n x154.1 (w64 ((1 : Int) + x130))).bind fun x473 =>
              if x473 = true then
                m_laws_FnLit_j17 n x126 x130 v151 x152 x153 x154 x155 x156 x157 true
              else
                m_laws_FnLit_j17 n x126 x130 v151 x152 x153 x154 x155 x156 x157 (!(decide ((w64 ((x155.1.length : Int) + (x152.1.length : Int))) = (x126.Feeder.Buses.length : Int))))
          else
            m_laws_FnLit_j17 n x126 x130 v151 x152 x153 x154 x155 x156 x157 true
        else
          m_laws_FnLit_j17 n x126 x130 v151 x152 x153 x154 x155 x156 x157 true
      else
        m_laws_FnLit_j17 n x126 x130 v151 x152 x153 x154 x155 x156 x157 true
    else
      m_laws_FnLit_j17 n x126 x130 v151 x152 x153 x154 x155 x156 x157 true
  else
    m_laws_FnLit_j17 n x126 x130 v151 x152 x153 x154 x155 x156 x157 true
def m_laws_FnLit_j19 (n : Nat) (k497 : List Int → Int → Option Bool) (v485 : Int) (v507 : List Int) : Option Bool :=
  k497 v507 (w64 (v485 + (1 : Int)))
def m_laws_FnLit_j20 (n : Nat) (k497 : List Int → Int → Option Bool) (v484 : List Int) (v485 : Int) (v515 : Bool) : Option Bool :=
  if v515 = true then
    grd (room (v484.length + 1) 8) <|
    m_laws_FnLit_j19 n k497 v485 (v484 ++ [v485])
  else
    m_laws_FnLit_j19 n k497 v485 v484
def m_laws_FnLit_l18 (n : Nat) (more_ : List Int) (x126 : SGrid) (x130 : Int) : Nat → List Int → Int → Option Bool
  | 0, _, _ => none
  | m496 + 1, v484, v485 =>
    if v485 < (x126.Ties.length : Int) then
      (m_laws_r8At n more_ (w64 ((1 : Int) + v485)) (2 : Int)).bind fun x519 =>
      if x519 = (0 : Int) then
        (getI x126.Ties v485).bind fun x521 =>
        if x521.A = (w64 ((1 : Int) + x130)) then
          m_laws_FnLit_j20 n (m_laws_FnLit_l18 n more_ x126 x130 m496) v484 v485 false
        else
          m_laws_FnLit_j20 n (m_laws_FnLit_l18 n more_ x126 x130 m496) v484 v485 (!(decide (x521.B = (w64 ((1 : Int) + x130)))))
      else
        m_laws_FnLit_j20 n (m_laws_FnLit_l18 n more_ x126 x130 m496) v484 v485 false
    else
      m_laws_FnLit_j1 n x126 x130 v484
def m_laws_FnLit (n : Nat) (code_ : List Int) (more_ : List Int) : Option Bool :=
  (m_laws_r8Long n code_ more_).bind fun x124 =>
  if x124 = true then
    some true
  else
    (m_spec_R8Grid n code_).bind fun x126 =>
    if (x126.Feeder.Buses.length : Int) < (2 : Int) then
      (m_impl_ValidGrid n (SGrid.mk (SFeeder.mk x126.Feeder.Source x126.Feeder.Buses) x126.Ties)).bind fun x129 =>
      some x129
    else
      (m_laws_r8At n more_ (0 : Int) (w64 ((x126.Feeder.Buses.length : Int) - (1 : Int)))).bind fun x130 =>
      m_laws_FnLit_l18 n more_ x126 x130 n ([] : List Int) (0 : Int)
theorem laws_FnLit_ok_fr0 (fr : Bool) (n : Nat) (code_ : List Int) (more_ : List Int) {r : Bool} (h : m_laws_FnLit n code_ more_ = some r) : ACall prog fr 3 [.d (.sl false (code_.map eIntu8)), .d (.sl false (more_.map eIntu8))] [] (fun v o new => v = .d (.bool r) ∧ o = [] ∧ new = []) := by
  refine acall_of_aw hτ func3 rfl (by simp) (by simp) ?_
  unfold m_laws_FnLit at h
  refine aw_seq ?_
  refine aw_region ?_
  refine awl_val hτ rfl rfl rfl ?_
  refine awl_nil ?_
  refine aw_seq ?_
  refine aw_seq ?_
  refine aw_region ?_
  refine awl_val hτ rfl rfl rfl ?_
  refine awl_val hτ rfl rfl rfl ?_
  refine bnd_elim h fun x124 hx124 h => ?_
  refine awl_callP hτ false [] rfl rfl rfl (enterOk func7 rfl rfl) rfl rfl (by simp) ⟨trivial, trivial, trivial⟩ (by repeat' first | exact trivial | refine ⟨?_, ?_⟩) (laws_r8Long_ok n code_ more_ hx124) ?_
  rintro r0 o0 n0 ⟨rfl, rfl, rfl⟩ -
  refine awl_nil ?_
  refine aw_cond rfl (fun hc125 => ?_) (fun hc125 => ?_)
  · have h := if_bt h hc125
    refine aw_seq ?_
    refine aw_region ?_
    refine awl_val hτ rfl rfl rfl ?_
    refine awl_nil ?_
    refine aw_weak (weak_ofP [] (l := [(4, .d (.bool true))]) (objs := []) rfl (by simp) rfl (by repeat' first | exact trivial | refine ⟨?_, ?_⟩) ⟨rfl, trivial, trivial⟩) ?_
    refine aw_ret ?_
    have hr := Option.some.inj h
    subst hr
    exact ret_objs (.inr rfl) [] (objs' := []) (new := []) rfl (by simp) (by simp) rfl (by repeat' first | exact trivial | refine ⟨?_, ?_⟩) rfl rfl (by repeat' first | exact trivial | refine ⟨?_, ?_⟩) (fun _ => ⟨by simp [V.flat, V.flatA, V.flatC, D.flat], flat_nil⟩) ⟨rfl, rfl, rfl⟩
  · have h := if_bf h hc125
    refine aw_skip ?_
    refine aw_seq ?_
    refine aw_region ?_
    refine awl_val hτ rfl rfl rfl ?_
    refine bnd_elim h fun x126 hx126 h => ?_
    refine awl_callP hτ false [] rfl rfl rfl (enterOk func8 rfl rfl) rfl rfl (by simp) ⟨trivial, trivial⟩ (by repeat' first | exact trivial | refine ⟨?_, ?_⟩) (spec_R8Grid_ok n code_ hx126) ?_
    rintro r0 o0 n0 ⟨rfl, rfl, rfl⟩ -
    refine awl_valH hτ rfl rfl rfl ?_
    refine awl_valH hτ rfl rfl rfl ?_
    refine awl_nil ?_
    refine aw_seq ?_
    refine aw_weak (weak_ofP [2, 0, 1] (l := [(1, .d (.sl false (more_.map eIntu8))), (5, .ptr 0 0)]) (objs := [.box [.d (.cx .f32 x126.Feeder.Source.A.re x126.Feeder.Source.A.im), .d (.cx .f32 x126.Feeder.Source.B.re x126.Feeder.Source.B.im), .d (.cx .f32 x126.Feeder.Source.C.re x126.Feeder.Source.C.im), .row 1 x126.Feeder.Buses.length 0 x126.Feeder.Buses.length, .row 2 x126.Ties.length 0 x126.Ties.length], .row 8 (x126.Feeder.Buses.map eSBus), .row 5 (x126.Ties.map eSTie)]) rfl (by simp) rfl (by repeat' first | exact trivial | refine ⟨?_, ?_⟩) ⟨rfl, trivial, rfl, trivial, trivial⟩) ?_
    refine aw_region ?_
    refine awl_val hτ rfl rfl rfl ?_
    refine awl_val hτ rfl rfl rfl ?_
    refine awl_val hτ rfl rfl rfl ?_
    refine awl_need hτ rfl rfl rfl (len_map _) ?_
    refine awl_val hτ rfl rfl rfl ?_
    refine awl_nil ?_
    refine aw_seq ?_
    refine aw_seq ?_
    refine aw_region ?_
    refine awl_val hτ rfl rfl rfl ?_
    refine awl_val hτ rfl rfl rfl ?_
    refine awl_nil ?_
    refine aw_weak (weak_ofP [0, 1, 2] (l := [(1, .d (.sl false (more_.map eIntu8))), (5, .ptr 0 0), (6, .d (.int .i64 (x126.Feeder.Buses.length : Int))), (42, .d (.bool (decide ((x126.Feeder.Buses.length : Int) < (2 : Int)))))]) (objs := [.box [.d (.cx .f32 x126.Feeder.Source.A.re x126.Feeder.Source.A.im), .d (.cx .f32 x126.Feeder.Source.B.re x126.Feeder.Source.B.im), .d (.cx .f32 x126.Feeder.Source.C.re x126.Feeder.Source.C.im), .row 1 x126.Feeder.Buses.length 0 x126.Feeder.Buses.length, .row 2 x126.Ties.length 0 x126.Ties.length], .row 8 (x126.Feeder.Buses.map eSBus), .row 5 (x126.Ties.map eSTie)]) rfl (by simp) rfl (by repeat' first | exact trivial | refine ⟨?_, ?_⟩) ⟨rfl, trivial, rfl, trivial, rfl, trivial, rfl, trivial, trivial⟩) ?_
    refine aw_cond rfl (fun hc128 => ?_) (fun hc128 => ?_)
    · have h := if_t h hc128
      refine aw_seq ?_
      refine aw_region ?_
      refine awl_val hτ rfl rfl rfl ?_
      refine awl_weak (weak_ofP [1, 2] (l := [(43, .agg [.d (.cx .f32 x126.Feeder.Source.A.re x126.Feeder.Source.A.im), .d (.cx .f32 x126.Feeder.Source.B.re x126.Feeder.Source.B.im), .d (.cx .f32 x126.Feeder.Source.C.re x126.Feeder.Source.C.im), .row 0 x126.Feeder.Buses.length 0 x126.Feeder.Buses.length, .row 1 x126.Ties.length 0 x126.Ties.length])]) (objs := [.row 8 (x126.Feeder.Buses.map eSBus), .row 5 (x126.Ties.map eSTie)]) rfl (by simp) rfl (by repeat' first | exact trivial | refine ⟨?_, ?_⟩) ⟨rfl, (by repeat' first | exact trivial | refine ⟨?_, ?_⟩), trivial⟩) ?_
      refine bnd_elim h fun x129 hx129 h => ?_
      refine awl_callP hτ true [] rfl rfl rfl (enterOk func9 rfl rfl) (mapO_cons (exV_agg (mapO_cons rfl (mapO_cons rfl (mapO_cons rfl (mapO_cons (exC_view (f := eSBus) x126.Feeder.Buses rfl rfl rfl) (mapO_cons (exC_view (f := eSTie) x126.Ties rfl rfl rfl) mapO_nil)))))) mapO_nil) rfl (by simp) ⟨⟨trivial, trivial, trivial, (exP_view (f := eSBus) x126.Feeder.Buses rfl rfl rfl), (exP_view (f := eSTie) x126.Ties rfl rfl rfl)⟩, trivial⟩ (by repeat' first | exact trivial | refine ⟨?_, ?_⟩) (impl_ValidGrid_ok_fr n (SGrid.mk (SFeeder.mk x126.Feeder.Source x126.Feeder.Buses) x126.Ties) hx129) ?_
      rintro r0 o0 n0 ⟨rfl, rfl, rfl⟩ -
      refine awl_val hτ rfl rfl rfl ?_
      refine awl_nil ?_
      refine aw_weak (weak_ofP [] (l := [(4, .d (.bool x129))]) (objs := []) rfl (by simp) rfl (by repeat' first | exact trivial | refine ⟨?_, ?_⟩) ⟨rfl, trivial, trivial⟩) ?_
      refine aw_ret ?_
      have hr := Option.some.inj h
      subst hr
      exact ret_objs (.inr rfl) [] (objs' := []) (new := []) rfl (by simp) (by simp) rfl (by repeat' first | exact trivial | refine ⟨?_, ?_⟩) rfl rfl (by repeat' first | exact trivial | refine ⟨?_, ?_⟩) (fun _ => ⟨by simp [V.flat, V.flatA, V.flatC, D.flat], flat_nil⟩) ⟨rfl, rfl, rfl⟩
    · have h := if_f h hc128
      refine aw_skip ?_
      refine aw_seq ?_
      refine aw_region ?_
      refine awl_val hτ rfl rfl rfl ?_
      refine awl_val hτ rfl rfl rfl ?_
      refine awl_val hτ rfl rfl rfl ?_
      refine bnd_elim h fun x130 hx130 h => ?_
      refine awl_callP hτ false [] rfl rfl rfl (enterOk func10 rfl rfl) rfl rfl (by simp) ⟨trivial, trivial, trivial, trivial⟩ (by repeat' first | exact trivial | refine ⟨?_, ?_⟩) (laws_r8At_ok n more_ (0 : Int) (w64 ((x126.Feeder.Buses.length : Int) - (1 : Int))) hx130) ?_
      rintro r0 o0 n0 ⟨rfl, rfl, rfl⟩ -
      refine awl_val hτ rfl rfl rfl ?_
      refine awl_val hτ rfl rfl rfl ?_
      refine awl_nil ?_
      refine aw_seq ?_
      refine aw_weak (weak_ofP [0, 1, 2] (l := [(1, .d (.sl false (more_.map eIntu8))), (5, .ptr 0 0), (6, .d (.int .i64 (x126.Feeder.Buses.length : Int))), (7, .d (.int .i64 (w64 ((1 : Int) + x130))))]) (objs := [.box [.d (.cx .f32 x126.Feeder.Source.A.re x126.Feeder.Source.A.im), .d (.cx .f32 x126.Feeder.Source.B.re x126.Feeder.Source.B.im), .d (.cx .f32 x126.Feeder.Source.C.re x126.Feeder.Source.C.im), .row 1 x126.Feeder.Buses.length 0 x126.Feeder.Buses.length, .row 2 x126.Ties.length 0 x126.Ties.length], .row 8 (x126.Feeder.Buses.map eSBus), .row 5 (x126.Ties.map eSTie)]) rfl (by simp) rfl (by repeat' first | exact trivial | refine ⟨?_, ?_⟩) ⟨rfl, trivial, rfl, trivial, rfl, trivial, rfl, trivial, trivial⟩) ?_
      refine aw_region ?_
      refine awl_valH hτ rfl rfl rfl ?_
      refine awl_val hτ rfl rfl rfl ?_
      refine awl_nil ?_
      refine aw_hk1 (ι := List Int) (fun v151 => St.of [(5, .ptr 0 0), (6, .d (.int .i64 (x126.Feeder.Buses.length : Int))), (7, .d (.int .i64 (w64 ((1 : Int) + x130)))), (8, .row 3 v151.length 0 v151.length)] [.box [.d (.cx .f32 x126.Feeder.Source.A.re x126.Feeder.Source.A.im), .d (.cx .f32 x126.Feeder.Source.B.re x126.Feeder.Source.B.im), .d (.cx .f32 x126.Feeder.Source.C.re x126.Feeder.Source.C.im), .row 1 x126.Feeder.Buses.length 0 x126.Feeder.Buses.length, .row 2 x126.Ties.length 0 x126.Ties.length], .row 8 (x126.Feeder.Buses.map eSBus), .row 5 (x126.Ties.map eSTie), .row 1 (v151.map eInti64)] f3.ntmps 0) (fun v151 => m_laws_FnLit_j1 n x126 x130 v151 = some r) ?_ (fun hk475 => ?_)
      · rintro v151 h
        replace h : m_laws_FnLit_j1 n x126 x130 v151 = some r := h
        unfold m_laws_FnLit_j1 at h
        refine aw_seq ?_
        refine aw_region ?_
        refine awl_val hτ rfl rfl rfl ?_
        refine awl_val hτ rfl rfl rfl ?_
        refine awl_weak (weak_ofP [0, 1, 2, 3] (l := [(5, .ptr 0 0), (6, .d (.int .i64 (x126.Feeder.Buses.length : Int))), (7, .d (.int .i64 (w64 ((1 : Int) + x130)))), (8, .row 3 v151.length 0 v151.length), (88, .agg [.d (.cx .f32 x126.Feeder.Source.A.re x126.Feeder.Source.A.im), .d (.cx .f32 x126.Feeder.Source.B.re x126.Feeder.Source.B.im), .d (.cx .f32 x126.Feeder.Source.C.re x126.Feeder.Source.C.im), .row 1 x126.Feeder.Buses.length 0 x126.Feeder.Buses.length, .row 2 x126.Ties.length 0 x126.Ties.length]), (89, .d (.int .i64 (w64 ((1 : Int) + x130))))]) (objs := [.box [.d (.cx .f32 x126.Feeder.Source.A.re x126.Feeder.Source.A.im), .d (.cx .f32 x126.Feeder.Source.B.re x126.Feeder.Source.B.im), .d (.cx .f32 x126.Feeder.Source.C.re x126.Feeder.Source.C.im), .row 1 x126.Feeder.Buses.length 0 x126.Feeder.Buses.length, .row 2 x126.Ties.length 0 x126.Ties.length], .row 8 (x126.Feeder.Buses.map eSBus), .row 5 (x126.Ties.map eSTie), .row 1 (v151.map eInti64)]) rfl (by simp) rfl (by repeat' first | exact trivial | refine ⟨?_, ?_⟩) ⟨rfl, trivial, rfl, trivial, rfl, trivial, rfl, trivial, rfl, (by repeat' first | exact trivial | refine ⟨?_, ?_⟩), rfl, trivial, trivial⟩) ?_
        refine bnd_elim h fun x152 hx152 h => ?_
        refine awl_callP hτ true [] rfl rfl rfl (enterOk func11 rfl rfl) (mapO_cons (exV_agg (mapO_cons rfl (mapO_cons rfl (mapO_cons rfl (mapO_cons (exC_view (f := eSBus) x126.Feeder.Buses rfl rfl rfl) (mapO_cons (exC_view (f := eSTie) x126.Ties rfl rfl rfl) mapO_nil)))))) (mapO_cons rfl mapO_nil)) rfl (by simp) ⟨⟨trivial, trivial, trivial, (exP_view (f := eSBus) x126.Feeder.Buses rfl rfl rfl), (exP_view (f := eSTie) x126.Ties rfl rfl rfl)⟩, trivial, trivial⟩ (by repeat' first | exact trivial | refine ⟨?_, ?_⟩) (impl_DarkAfter_ok_fr n (SGrid.mk (SFeeder.mk x126.Feeder.Source x126.Feeder.Buses) x126.Ties) (w64 ((1 : Int) + x130)) hx152) ?_
        rintro r0 o0 n0 ⟨rfl, rfl, rfl⟩ -
        refine awl_val hτ rfl rfl rfl ?_
        refine awl_val hτ rfl rfl rfl ?_
        refine awl_val hτ rfl rfl rfl ?_
        refine awl_val hτ rfl rfl rfl ?_
        refine awl_val hτ rfl rfl rfl ?_
        refine awl_nil ?_
        refine aw_seq ?_
        refine aw_weak (weak_ofP [0, 1, 2, 3, 4] (l := [(5, .ptr 0 0), (6, .d (.int .i64 (x126.Feeder.Buses.length : Int))), (7, .d (.int .i64 (w64 ((1 : Int) + x130)))), (8, .row 3 v151.length 0 v151.length), (10, .row 4 x152.1.length 0 x152.1.length), (11, .d (.bool x152.2))]) (objs := [.box [.d (.cx .f32 x126.Feeder.Source.A.re x126.Feeder.Source.A.im), .d (.cx .f32 x126.Feeder.Source.B.re x126.Feeder.Source.B.im), .d (.cx .f32 x126.Feeder.Source.C.re x126.Feeder.Source.C.im), .row 1 x126.Feeder.Buses.length 0 x126.Feeder.Buses.length, .row 2 x126.Ties.length 0 x126.Ties.length], .row 8 (x126.Feeder.Buses.map eSBus), .row 5 (x126.Ties.map eSTie), .row 1 (v151.map eInti64), .row 1 (x152.1.map eInti64)]) rfl (by simp) rfl (by repeat' first | exact trivial | refine ⟨?_, ?_⟩) ⟨rfl, trivial, rfl, trivial, rfl, trivial, rfl, trivial, rfl, trivial, rfl, trivial, trivial⟩) ?_
        refine aw_region ?_
        refine awl_val hτ rfl rfl rfl ?_
        refine awl_val hτ rfl rfl rfl ?_
        refine awl_weak (weak_ofP [0, 3, 4] (l := [(5, .ptr 0 0), (6, .d (.int .i64 (x126.Feeder.Buses.length : Int))), (7, .d (.int .i64 (w64 ((1 : Int) + x130)))), (8, .row 1 v151.length 0 v151.length), (10, .row 2 x152.1.length 0 x152.1.length), (11, .d (.bool x152.2)), (94, .agg [.d (.cx .f32 x126.Feeder.Source.A.re x126.Feeder.Source.A.im), .d (.cx .f32 x126.Feeder.Source.B.re x126.Feeder.Source.B.im), .d (.cx .f32 x126.Feeder.Source.C.re x126.Feeder.Source.C.im), .d (.sl false (x126.Feeder.Buses.map eSBus)), .d (.sl false (x126.Ties.map eSTie))]), (95, .d (.int .i64 (w64 ((1 : Int) + x130))))]) (objs := [.box [.d (.cx .f32 x126.Feeder.Source.A.re x126.Feeder.Source.A.im), .d (.cx .f32 x126.Feeder.Source.B.re x126.Feeder.Source.B.im), .d (.cx .f32 x126.Feeder.Source.C.re x126.Feeder.Source.C.im), .d (.sl false (x126.Feeder.Buses.map eSBus)), .d (.sl false (x126.Ties.map eSTie))], .row 1 (v151.map eInti64), .row 1 (x152.1.map eInti64)]) rfl (by simp) (mapO_cons (exO_box (mapO_cons rfl (mapO_cons rfl (mapO_cons rfl (mapO_cons (exC_view (f := eSBus) x126.Feeder.Buses rfl rfl rfl) (mapO_cons (exC_view (f := eSTie) x126.Ties rfl rfl rfl) mapO_nil)))))) (mapO_cons rfl (mapO_cons rfl mapO_nil))) ⟨⟨trivial, trivial, trivial, (exP_view (f := eSBus) x126.Feeder.Buses rfl rfl rfl), (exP_view (f := eSTie) x126.Ties rfl rfl rfl)⟩, trivial, trivial, trivial⟩ ⟨rfl, trivial, rfl, trivial, rfl, trivial, rfl, trivial, rfl, trivial, rfl, trivial, (exV_agg (mapO_cons rfl (mapO_cons rfl (mapO_cons rfl (mapO_cons (exC_view (f := eSBus) x126.Feeder.Buses rfl rfl rfl) (mapO_cons (exC_view (f := eSTie) x126.Ties rfl rfl rfl) mapO_nil)))))), ⟨trivial, trivial, trivial, (exP_view (f := eSBus) x126.Feeder.Buses rfl rfl rfl), (exP_view (f := eSTie) x126.Ties rfl rfl rfl)⟩, rfl, trivial, trivial⟩) ?_
        refine bnd_elim h fun x153 hx153 h => ?_
        refine awl_callP hτ false [] rfl rfl rfl (enterOk func12 rfl rfl) rfl rfl (by simp) ⟨(by repeat' first | exact trivial | refine ⟨?_, ?_⟩), trivial, trivial⟩ (by repeat' first | exact trivial | refine ⟨?_, ?_⟩) (impl_PartsAfter_ok n x126 (w64 ((1 : Int) + x130)) hx153) ?_
        rintro r0 o0 n0 ⟨rfl, rfl, rfl⟩ -
        refine awl_val hτ rfl rfl rfl ?_
        refine awl_val hτ rfl rfl rfl ?_
        refine awl_val hτ rfl rfl rfl ?_
        refine awl_val hτ rfl rfl rfl ?_
        refine awl_val hτ rfl rfl rfl ?_
        refine awl_nil ?_
        refine aw_seq ?_
        refine aw_weak (weak_ofP [0, 1, 2, 3] (l := [(5, .ptr 0 0), (6, .d (.int .i64 (x126.Feeder.Buses.length : Int))), (7, .d (.int .i64 (w64 ((1 : Int) + x130)))), (8, .row 1 v151.length 0 v151.length), (10, .row 2 x152.1.length 0 x152.1.length), (11, .d (.bool x152.2)), (12, .row 3 x153.1.length 0 x153.1.length), (13, .d (.bool x153.2))]) (objs := [.box [.d (.cx .f32 x126.Feeder.Source.A.re x126.Feeder.Source.A.im), .d (.cx .f32 x126.Feeder.Source.B.re x126.Feeder.Source.B.im), .d (.cx .f32 x126.Feeder.Source.C.re x126.Feeder.Source.C.im), .d (.sl false (x126.Feeder.Buses.map eSBus)), .d (.sl false (x126.Ties.map eSTie))], .row 1 (v151.map eInti64), .row 1 (x152.1.map eInti64), .row 1 (x153.1.map eLInt)]) rfl (by simp) rfl (by repeat' first | exact trivial | refine ⟨?_, ?_⟩) ⟨rfl, trivial, rfl, trivial, rfl, trivial, rfl, trivial, rfl, trivial, rfl, trivial, rfl, trivial, rfl, trivial, trivial⟩) ?_
        refine aw_region ?_
        refine awl_val hτ rfl rfl rfl ?_
        refine awl_val hτ rfl rfl rfl ?_
        refine awl_val hτ rfl rfl rfl ?_
        refine awl_weak (weak_ofP [0, 1, 2, 3] (l := [(5, .ptr 0 0), (6, .d (.int .i64 (x126.Feeder.Buses.length : Int))), (7, .d (.int .i64 (w64 ((1 : Int) + x130)))), (8, .row 1 v151.length 0 v151.length), (10, .row 2 x152.1.length 0 x152.1.length), (11, .d (.bool x152.2)), (12, .row 3 x153.1.length 0 x153.1.length), (13, .d (.bool x153.2)), (100, .agg [.d (.cx .f32 x126.Feeder.Source.A.re x126.Feeder.Source.A.im), .d (.cx .f32 x126.Feeder.Source.B.re x126.Feeder.Source.B.im), .d (.cx .f32 x126.Feeder.Source.C.re x126.Feeder.Source.C.im), .d (.sl false (x126.Feeder.Buses.map eSBus)), .d (.sl false (x126.Ties.map eSTie))]), (101, .d (.int .i64 (w64 ((1 : Int) + x130)))), (102, .row 1 v151.length 0 v151.length)]) (objs := [.box [.d (.cx .f32 x126.Feeder.Source.A.re x126.Feeder.Source.A.im), .d (.cx .f32 x126.Feeder.Source.B.re x126.Feeder.Source.B.im), .d (.cx .f32 x126.Feeder.Source.C.re x126.Feeder.Source.C.im), .d (.sl false (x126.Feeder.Buses.map eSBus)), .d (.sl false (x126.Ties.map eSTie))], .row 1 (v151.map eInti64), .row 1 (x152.1.map eInti64), .row 1 (x153.1.map eLInt)]) rfl (by simp) rfl (by repeat' first | exact trivial | refine ⟨?_, ?_⟩) ⟨rfl, trivial, rfl, trivial, rfl, trivial, rfl, trivial, rfl, trivial, rfl, trivial, rfl, trivial, rfl, trivial, rfl, (by repeat' first | exact trivial | refine ⟨?_, ?_⟩), rfl, trivial, rfl, trivial, trivial⟩) ?_
        refine bnd_elim h fun x154 hx154 h => ?_
        refine awl_callP hτ true [] rfl rfl rfl (enterOk func13 rfl rfl) (mapO_cons rfl (mapO_cons rfl (mapO_cons (exV_view (f := eInti64) v151 rfl rfl rfl) mapO_nil))) rfl (by simp) ⟨(by repeat' first | exact trivial | refine ⟨?_, ?_⟩), trivial, (exVP_view (f := eInti64) v151 rfl rfl rfl), trivial⟩ (by repeat' first | exact trivial | refine ⟨?_, ?_⟩) (impl_LitAfter_ok_fr n x126 (w64 ((1 : Int) + x130)) v151 hx154) ?_
        rintro r0 o0 n0 ⟨rfl, rfl, rfl⟩ -
        refine awl_val hτ rfl rfl rfl ?_
        refine awl_val hτ rfl rfl rfl ?_
        refine awl_val hτ rfl rfl rfl ?_
        refine awl_val hτ rfl rfl rfl ?_
        refine awl_val hτ rfl rfl rfl ?_
        refine awl_nil ?_
        refine aw_seq ?_
        refine aw_weak (weak_ofP [0, 1, 2, 3, 4] (l := [(5, .ptr 0 0), (6, .d (.int .i64 (x126.Feeder.Buses.length : Int))), (7, .d (.int .i64 (w64 ((1 : Int) + x130)))), (8, .row 1 v151.length 0 v151.length), (10, .row 2 x152.1.length 0 x152.1.length), (11, .d (.bool x152.2)), (12, .row 3 x153.1.length 0 x153.1.length), (13, .d (.bool x153.2)), (14, .row 4 x154.1.length 0 x154.1.length), (15, .d (.bool x154.2))]) (objs := [.box [.d (.cx .f32 x126.Feeder.Source.A.re x126.Feeder.Source.A.im), .d (.cx .f32 x126.Feeder.Source.B.re x126.Feeder.Source.B.im), .d (.cx .f32 x126.Feeder.Source.C.re x126.Feeder.Source.C.im), .d (.sl false (x126.Feeder.Buses.map eSBus)), .d (.sl false (x126.Ties.map eSTie))], .row 1 (v151.map eInti64), .row 1 (x152.1.map eInti64), .row 1 (x153.1.map eLInt), .row 1 (x154.1.map eInti64)]) rfl (by simp) rfl (by repeat' first | exact trivial | refine ⟨?_, ?_⟩) ⟨rfl, trivial, rfl, trivial, rfl, trivial, rfl, trivial, rfl, trivial, rfl, trivial, rfl, trivial, rfl, trivial, rfl, trivial, rfl, trivial, trivial⟩) ?_
        refine aw_region ?_
        refine awl_val hτ rfl rfl rfl ?_
        refine awl_val hτ rfl rfl rfl ?_
        refine awl_valH hτ rfl rfl rfl ?_
        refine awl_weak (weak_ofP [0, 1, 2, 3, 4, 5] (l := [(5, .ptr 0 0), (6, .d (.int .i64 (x126.Feeder.Buses.length : Int))), (7, .d (.int .i64 (w64 ((1 : Int) + x130)))), (8, .row 1 v151.length 0 v151.length), (10, .row 2 x152.1.length 0 x152.1.length), (11, .d (.bool x152.2)), (12, .row 3 x153.1.length 0 x153.1.length), (13, .d (.bool x153.2)), (14, .row 4 x154.1.length 0 x154.1.length), (15, .d (.bool x154.2)), (107, .agg [.d (.cx .f32 x126.Feeder.Source.A.re x126.Feeder.Source.A.im), .d (.cx .f32 x126.Feeder.Source.B.re x126.Feeder.Source.B.im), .d (.cx .f32 x126.Feeder.Source.C.re x126.Feeder.Source.C.im), .d (.sl false (x126.Feeder.Buses.map eSBus)), .d (.sl false (x126.Ties.map eSTie))]), (108, .d (.int .i64 (w64 ((1 : Int) + x130)))), (109, .row 5 (([] : List Int).length) 0 (([] : List Int).length))]) (objs := [.box [.d (.cx .f32 x126.Feeder.Source.A.re x126.Feeder.Source.A.im), .d (.cx .f32 x126.Feeder.Source.B.re x126.Feeder.Source.B.im), .d (.cx .f32 x126.Feeder.Source.C.re x126.Feeder.Source.C.im), .d (.sl false (x126.Feeder.Buses.map eSBus)), .d (.sl false (x126.Ties.map eSTie))], .row 1 (v151.map eInti64), .row 1 (x152.1.map eInti64), .row 1 (x153.1.map eLInt), .row 1 (x154.1.map eInti64), .row 1 (([] : List Int).map eInti64)]) rfl (by simp) rfl (by repeat' first | exact trivial | refine ⟨?_, ?_⟩) ⟨rfl, trivial, rfl, trivial, rfl, trivial, rfl, trivial, rfl, trivial, rfl, trivial, rfl, trivial, rfl, trivial, rfl, trivial, rfl, trivial, rfl, (by repeat' first | exact trivial | refine ⟨?_, ?_⟩), rfl, trivial, rfl, trivial, trivial⟩) ?_
        refine bnd_elim h fun x155 hx155 h => ?_
        refine awl_callP hτ true [] rfl rfl rfl (enterOk func13 rfl rfl) (mapO_cons rfl (mapO_cons rfl (mapO_cons (exV_view (f := eInti64) ([] : List Int) rfl rfl rfl) mapO_nil))) rfl (by simp) ⟨(by repeat' first | exact trivial | refine ⟨?_, ?_⟩), trivial, (exVP_view (f := eInti64) ([] : List Int) rfl rfl rfl), trivial⟩ (by repeat' first | exact trivial | refine ⟨?_, ?_⟩) (impl_LitAfter_ok_fr n x126 (w64 ((1 : Int) + x130)) ([] : List Int) hx155) ?_
        rintro r0 o0 n0 ⟨rfl, rfl, rfl⟩ -
        refine awl_val hτ rfl rfl rfl ?_
        refine awl_val hτ rfl rfl rfl ?_
        refine awl_val hτ rfl rfl rfl ?_
        refine awl_val hτ rfl rfl rfl ?_
        refine awl_val hτ rfl rfl rfl ?_
        refine awl_nil ?_
        refine aw_seq ?_
        refine aw_weak (weak_ofP [0, 1, 2, 3, 4, 6] (l := [(5, .ptr 0 0), (6, .d (.int .i64 (x126.Feeder.Buses.length : Int))), (7, .d (.int .i64 (w64 ((1 : Int) + x130)))), (8, .row 1 v151.length 0 v151.length), (10, .row 2 x152.1.length 0 x152.1.length), (11, .d (.bool x152.2)), (12, .row 3 x153.1.length 0 x153.1.length), (13, .d (.bool x153.2)), (14, .row 4 x154.1.length 0 x154.1.length), (15, .d (.bool x154.2)), (16, .row 5 x155.1.length 0 x155.1.length), (17, .d (.bool x155.2))]) (objs := [.box [.d (.cx .f32 x126.Feeder.Source.A.re x126.Feeder.Source.A.im), .d (.cx .f32 x126.Feeder.Source.B.re x126.Feeder.Source.B.im), .d (.cx .f32 x126.Feeder.Source.C.re x126.Feeder.Source.C.im), .d (.sl false (x126.Feeder.Buses.map eSBus)), .d (.sl false (x126.Ties.map eSTie))], .row 1 (v151.map eInti64), .row 1 (x152.1.map eInti64), .row 1 (x153.1.map eLInt), .row 1 (x154.1.map eInti64), .row 1 (x155.1.map eInti64)]) rfl (by simp) rfl (by repeat' first | exact trivial | refine ⟨?_, ?_⟩) ⟨rfl, trivial, rfl, trivial, rfl, trivial, rfl, trivial, rfl, trivial, rfl, trivial, rfl, trivial, rfl, trivial, rfl, trivial, rfl, trivial, rfl, trivial, rfl, trivial, trivial⟩) ?_
        refine aw_region ?_
        refine awl_val hτ rfl rfl rfl ?_
        refine awl_val hτ rfl rfl rfl ?_
        refine awl_val hτ rfl rfl rfl ?_
        refine awl_weak (weak_ofP [0, 1, 2, 3, 4, 5] (l := [(5, .ptr 0 0), (6, .d (.int .i64 (x126.Feeder.Buses.length : Int))), (7, .d (.int .i64 (w64 ((1 : Int) + x130)))), (8, .row 1 v151.length 0 v151.length), (10, .row 2 x152.1.length 0 x152.1.length), (11, .d (.bool x152.2)), (12, .row 3 x153.1.length 0 x153.1.length), (13, .d (.bool x153.2)), (14, .row 4 x154.1.length 0 x154.1.length), (15, .d (.bool x154.2)), (16, .row 5 x155.1.length 0 x155.1.length), (17, .d (.bool x155.2)), (114, .agg [.d (.cx .f32 x126.Feeder.Source.A.re x126.Feeder.Source.A.im), .d (.cx .f32 x126.Feeder.Source.B.re x126.Feeder.Source.B.im), .d (.cx .f32 x126.Feeder.Source.C.re x126.Feeder.Source.C.im), .d (.sl false (x126.Feeder.Buses.map eSBus)), .d (.sl false (x126.Ties.map eSTie))]), (115, .d (.int .i64 (w64 ((1 : Int) + x130)))), (116, .row 1 v151.length 0 v151.length)]) (objs := [.box [.d (.cx .f32 x126.Feeder.Source.A.re x126.Feeder.Source.A.im), .d (.cx .f32 x126.Feeder.Source.B.re x126.Feeder.Source.B.im), .d (.cx .f32 x126.Feeder.Source.C.re x126.Feeder.Source.C.im), .d (.sl false (x126.Feeder.Buses.map eSBus)), .d (.sl false (x126.Ties.map eSTie))], .row 1 (v151.map eInti64), .row 1 (x152.1.map eInti64), .row 1 (x153.1.map eLInt), .row 1 (x154.1.map eInti64), .row 1 (x155.1.map eInti64)]) rfl (by simp) rfl (by repeat' first | exact trivial | refine ⟨?_, ?_⟩) ⟨rfl, trivial, rfl, trivial, rfl, trivial, rfl, trivial, rfl, trivial, rfl, trivial, rfl, trivial, rfl, trivial, rfl, trivial, rfl, trivial, rfl, trivial, rfl, trivial, rfl, (by repeat' first | exact trivial | refine ⟨?_, ?_⟩), rfl, trivial, rfl, trivial, trivial⟩) ?_
        refine bnd_elim h fun x156 hx156 h => ?_
        refine awl_callP hτ true [] rfl rfl rfl (enterOk func14 rfl rfl) (mapO_cons rfl (mapO_cons rfl (mapO_cons (exV_view (f := eInti64) v151 rfl rfl rfl) mapO_nil))) rfl (by simp) ⟨(by repeat' first | exact trivial | refine ⟨?_, ?_⟩), trivial, (exVP_view (f := eInti64) v151 rfl rfl rfl), trivial⟩ (by repeat' first | exact trivial | refine ⟨?_, ?_⟩) (impl_HasLoop_ok_fr n x126 (w64 ((1 : Int) + x130)) v151 hx156) ?_
        rintro r0 o0 n0 ⟨rfl, rfl, rfl⟩ -
        refine awl_val hτ rfl rfl rfl ?_
        refine awl_val hτ rfl rfl rfl ?_
        refine awl_val hτ rfl rfl rfl ?_
        refine awl_val hτ rfl rfl rfl ?_
        refine awl_val hτ rfl rfl rfl ?_
        refine awl_nil ?_
        refine aw_seq ?_
        refine aw_weak (weak_ofP [0, 1, 2, 3, 4, 5] (l := [(5, .ptr 0 0), (6, .d (.int .i64 (x126.Feeder.Buses.length : Int))), (7, .d (.int .i64 (w64 ((1 : Int) + x130)))), (8, .row 1 v151.length 0 v151.length), (10, .row 2 x152.1.length 0 x152.1.length), (11, .d (.bool x152.2)), (12, .row 3 x153.1.length 0 x153.1.length), (13, .d (.bool x153.2)), (14, .row 4 x154.1.length 0 x154.1.length), (15, .d (.bool x154.2)), (16, .row 5 x155.1.length 0 x155.1.length), (17, .d (.bool x155.2)), (18, .d (.bool x156.1)), (19, .d (.bool x156.2))]) (objs := [.box [.d (.cx .f32 x126.Feeder.Source.A.re x126.Feeder.Source.A.im), .d (.cx .f32 x126.Feeder.Source.B.re x126.Feeder.Source.B.im), .d (.cx .f32 x126.Feeder.Source.C.re x126.Feeder.Source.C.im), .d (.sl false (x126.Feeder.Buses.map eSBus)), .d (.sl false (x126.Ties.map eSTie))], .row 1 (v151.map eInti64), .row 1 (x152.1.map eInti64), .row 1 (x153.1.map eLInt), .row 1 (x154.1.map eInti64), .row 1 (x155.1.map eInti64)]) rfl (by simp) rfl (by repeat' first | exact trivial | refine ⟨?_, ?_⟩) ⟨rfl, trivial, rfl, trivial, rfl, trivial, rfl, trivial, rfl, trivial, rfl, trivial, rfl, trivial, rfl, trivial, rfl, trivial, rfl, trivial, rfl, trivial, rfl, trivial, rfl, trivial, rfl, trivial, trivial⟩) ?_
        refine aw_region ?_
        refine awl_val hτ rfl rfl rfl ?_
        refine awl_val hτ rfl rfl rfl ?_
        refine awl_val hτ rfl rfl rfl ?_
        refine awl_weak (weak_ofP [0, 1, 2, 3, 4, 5] (l := [(5, .ptr 0 0), (6, .d (.int .i64 (x126.Feeder.Buses.length : Int))), (7, .d (.int .i64 (w64 ((1 : Int) + x130)))), (8, .row 1 v151.length 0 v151.length), (10, .row 2 x152.1.length 0 x152.1.length), (11, .d (.bool x152.2)), (12, .row 3 x153.1.length 0 x153.1.length), (13, .d (.bool x153.2)), (14, .row 4 x154.1.length 0 x154.1.length), (15, .d (.bool x154.2)), (16, .row 5 x155.1.length 0 x155.1.length), (17, .d (.bool x155.2)), (18, .d (.bool x156.1)), (19, .d (.bool x156.2)), (121, .agg [.d (.cx .f32 x126.Feeder.Source.A.re x126.Feeder.Source.A.im), .d (.cx .f32 x126.Feeder.Source.B.re x126.Feeder.Source.B.im), .d (.cx .f32 x126.Feeder.Source.C.re x126.Feeder.Source.C.im), .d (.sl false (x126.Feeder.Buses.map eSBus)), .d (.sl false (x126.Ties.map eSTie))]), (122, .d (.int .i64 (w64 ((1 : Int) + x130)))), (123, .row 1 v151.length 0 v151.length)]) (objs := [.box [.d (.cx .f32 x126.Feeder.Source.A.re x126.Feeder.Source.A.im), .d (.cx .f32 x126.Feeder.Source.B.re x126.Feeder.Source.B.im), .d (.cx .f32 x126.Feeder.Source.C.re x126.Feeder.Source.C.im), .d (.sl false (x126.Feeder.Buses.map eSBus)), .d (.sl false (x126.Ties.map eSTie))], .row 1 (v151.map eInti64), .row 1 (x152.1.map eInti64), .row 1 (x153.1.map eLInt), .row 1 (x154.1.map eInti64), .row 1 (x155.1.map eInti64)]) rfl (by simp) rfl (by repeat' first | exact trivial | refine ⟨?_, ?_⟩) ⟨rfl, trivial, rfl, trivial, rfl, trivial, rfl, trivial, rfl, trivial, rfl, trivial, rfl, trivial, rfl, trivial, rfl, trivial, rfl, trivial, rfl, trivial, rfl, trivial, rfl, trivial, rfl, trivial, rfl, (by repeat' first | exact trivial | refine ⟨?_, ?_⟩), rfl, trivial, rfl, trivial, trivial⟩) ?_
        refine bnd_elim h fun x157 hx157 h => ?_
        refine awl_callP hτ true [] rfl rfl rfl (enterOk func15 rfl rfl) (mapO_cons rfl (mapO_cons rfl (mapO_cons (exV_view (f := eInti64) v151 rfl rfl rfl) mapO_nil))) rfl (by simp) ⟨(by repeat' first | exact trivial | refine ⟨?_, ?_⟩), trivial, (exVP_view (f := eInti64) v151 rfl rfl rfl), trivial⟩ (by repeat' first | exact trivial | refine ⟨?_, ?_⟩) (impl_BehindTies_ok_fr n x126 (w64 ((1 : Int) + x130)) v151 hx157) ?_
        rintro r0 o0 n0 ⟨rfl, rfl, rfl⟩ -
        refine awl_val hτ rfl rfl rfl ?_
        refine awl_val hτ rfl rfl rfl ?_
        refine awl_val hτ rfl rfl rfl ?_
        refine awl_val hτ rfl rfl rfl ?_
        refine awl_val hτ rfl rfl rfl ?_
        refine awl_nil ?_
        refine aw_hk1 (ι := Unit) (fun _ => St.of [(5, .ptr 0 0), (6, .d (.int .i64 (x126.Feeder.Buses.length : Int))), (7, .d (.int .i64 (w64 ((1 : Int) + x130)))), (8, .row 1 v151.length 0 v151.length), (10, .row 2 x152.1.length 0 x152.1.length), (12, .row 3 x153.1.length 0 x153.1.length), (14, .row 4 x154.1.length 0 x154.1.length), (16, .row 5 x155.1.length 0 x155.1.length), (18, .d (.bool x156.1)), (20, .row 6 x157.1.length 0 x157.1.length)] [.box [.d (.cx .f32 x126.Feeder.Source.A.re x126.Feeder.Source.A.im), .d (.cx .f32 x126.Feeder.Source.B.re x126.Feeder.Source.B.im), .d (.cx .f32 x126.Feeder.Source.C.re x126.Feeder.Source.C.im), .d (.sl false (x126.Feeder.Buses.map eSBus)), .d (.sl false (x126.Ties.map eSTie))], .row 1 (v151.map eInti64), .row 1 (x152.1.map eInti64), .row 1 (x153.1.map eLInt), .row 1 (x154.1.map eInti64), .row 1 (x155.1.map eInti64), .row 1 (x157.1.map eInti64)] f3.ntmps 0) (fun _ => m_laws_FnLit_j2 n x126 x130 v151 x152 x153 x154 x155 x156 x157 = some r) ?_ (fun hk454 => ?_)
        · rintro ⟨⟩ h
          replace h : m_laws_FnLit_j2 n x126 x130 v151 x152 x153 x154 x155 x156 x157 = some r := h
          unfold m_laws_FnLit_j2 at h
          refine aw_seq ?_
          refine aw_region ?_
          refine awl_val hτ rfl rfl rfl ?_
          refine awl_nil ?_
          refine aw_hk1 (ι := Int) (fun v207 => St.of [(5, .ptr 0 0), (6, .d (.int .i64 (x126.Feeder.Buses.length : Int))), (7, .d (.int .i64 (w64 ((1 : Int) + x130)))), (8, .row 1 v151.length 0 v151.length), (10, .row 2 x152.1.length 0 x152.1.length), (14, .row 3 x154.1.length 0 x154.1.length), (16, .row 4 x155.1.length 0 x155.1.length), (18, .d (.bool x156.1)), (20, .row 5 x157.1.length 0 x157.1.length), (22, .d (.int .i64 v207))] [.box [.d (.cx .f32 x126.Feeder.Source.A.re x126.Feeder.Source.A.im), .d (.cx .f32 x126.Feeder.Source.B.re x126.Feeder.Source.B.im), .d (.cx .f32 x126.Feeder.Source.C.re x126.Feeder.Source.C.im), .d (.sl false (x126.Feeder.Buses.map eSBus)), .d (.sl false (x126.Ties.map eSTie))], .row 1 (v151.map eInti64), .row 1 (x152.1.map eInti64), .row 1 (x154.1.map eInti64), .row 1 (x155.1.map eInti64), .row 1 (x157.1.map eInti64)] f3.ntmps 0) (fun v207 => m_laws_FnLit_j3 n x126 x130 v151 x152 x154 x155 x156 x157 v207 = some r) ?_ (fun hk343 => ?_)
          · rintro v207 h
            replace h : m_laws_FnLit_j3 n x126 x130 v151 x152 x154 x155 x156 x157 v207 = some r := h
            unfold m_laws_FnLit_j3 at h
            refine aw_hk1 (ι := Unit) (fun _ => St.of [(5, .ptr 0 0), (7, .d (.int .i64 (w64 ((1 : Int) + x130)))), (8, .row 1 v151.length 0 v151.length), (10, .row 2 x152.1.length 0 x152.1.length), (18, .d (.bool x156.1)), (20, .row 3 x157.1.length 0 x157.1.length), (22, .d (.int .i64 v207))] [.box [.d (.cx .f32 x126.Feeder.Source.A.re x126.Feeder.Source.A.im), .d (.cx .f32 x126.Feeder.Source.B.re x126.Feeder.Source.B.im), .d (.cx .f32 x126.Feeder.Source.C.re x126.Feeder.Source.C.im), .d (.sl false (x126.Feeder.Buses.map eSBus)), .d (.sl false (x126.Ties.map eSTie))], .row 1 (v151.map eInti64), .row 1 (x152.1.map eInti64), .row 1 (x157.1.map eInti64)] f3.ntmps 0) (fun _ => m_laws_FnLit_j4 n x126 x130 v151 x152 x156 x157 v207 = some r) ?_ (fun hk295 => ?_)
            · rintro ⟨⟩ h
              replace h : m_laws_FnLit_j4 n x126 x130 v151 x152 x156 x157 v207 = some r := h
              unfold m_laws_FnLit_j4 at h
              refine aw_seq ?_
              refine aw_seq ?_
              refine aw_region ?_
              refine awl_val hτ rfl rfl rfl ?_
              refine awl_nil ?_
              refine aw_cond rfl (fun hc228 => ?_) (fun hc228 => ?_)
              · have h := if_bt h hc228
                refine aw_seq ?_
                refine aw_region ?_
                refine awl_val hτ rfl rfl rfl ?_
                refine awl_val hτ rfl rfl rfl ?_
                refine awl_need hτ rfl rfl rfl (len_map _) ?_
                refine awl_val hτ (v := .d (.bool (decide (v207 = (x152.1.length : Int))))) rfl rfl (or_ieq _ _) ?_
                refine awl_val hτ rfl rfl rfl ?_
                refine awl_split 244 rfl (fun hb229 => ?_) (fun hb229 => ?_)
                · have h := if_t h hb229
                  refine awl_val hτ rfl rfl rfl ?_
                  refine awl_need hτ rfl rfl rfl (len_map _) ?_
                  refine awl_val hτ (v := .d (.bool (decide ((x157.1.length : Int) = (0 : Int))))) rfl rfl (or_ieq _ _) ?_
                  refine awl_val hτ rfl rfl rfl ?_
                  refine awl_val hτ rfl rfl rfl ?_
                  refine awl_nil ?_
                  refine aw_weak (weak_ofP [] (l := [(4, .d (.bool (decide ((x157.1.length : Int) = (0 : Int)))))]) (objs := []) rfl (by simp) rfl (by repeat' first | exact trivial | refine ⟨?_, ?_⟩) ⟨rfl, trivial, trivial⟩) ?_
                  refine aw_ret ?_
                  have hr := Option.some.inj h
                  subst hr
                  exact ret_objs (.inr rfl) [] (objs' := []) (new := []) rfl (by simp) (by simp) rfl (by repeat' first | exact trivial | refine ⟨?_, ?_⟩) rfl rfl (by repeat' first | exact trivial | refine ⟨?_, ?_⟩) (fun _ => ⟨by simp [V.flat, V.flatA, V.flatC, D.flat], flat_nil⟩) ⟨rfl, rfl, rfl⟩
                · have h := if_f h hb229
                  refine awl_skip rfl rfl ?_
                  refine awl_skip rfl rfl ?_
                  refine awl_skip rfl rfl ?_
                  refine awl_val hτ rfl rfl rfl ?_
                  refine awl_val hτ rfl rfl rfl ?_
                  refine awl_nil ?_
                  refine aw_weak (weak_ofP [] (l := [(4, .d (.bool false))]) (objs := []) rfl (by simp) rfl (by repeat' first | exact trivial | refine ⟨?_, ?_⟩) ⟨rfl, trivial, trivial⟩) ?_
                  refine aw_ret ?_
                  have hr := Option.some.inj h
                  subst hr
                  exact ret_objs (.inr rfl) [] (objs' := []) (new := []) rfl (by simp) (by simp) rfl (by repeat' first | exact trivial | refine ⟨?_, ?_⟩) rfl rfl (by repeat' first | exact trivial | refine ⟨?_, ?_⟩) (fun _ => ⟨by simp [V.flat, V.flatA, V.flatC, D.flat], flat_nil⟩) ⟨rfl, rfl, rfl⟩
              · have h := if_bf h hc228
                refine aw_skip ?_
                refine aw_seq ?_
                refine aw_region ?_
                refine awl_val hτ rfl rfl rfl ?_
                refine awl_val hτ rfl rfl rfl ?_
                refine awl_val hτ rfl rfl rfl ?_
                refine awl_weak (weak_ofP [0, 1, 2, 3] (l := [(5, .ptr 0 0), (7, .d (.int .i64 (w64 ((1 : Int) + x130)))), (8, .row 1 v151.length 0 v151.length), (10, .row 2 x152.1.length 0 x152.1.length), (20, .row 3 x157.1.length 0 x157.1.length), (22, .d (.int .i64 v207)), (250, .agg [.d (.cx .f32 x126.Feeder.Source.A.re x126.Feeder.Source.A.im), .d (.cx .f32 x126.Feeder.Source.B.re x126.Feeder.Source.B.im), .d (.cx .f32 x126.Feeder.Source.C.re x126.Feeder.Source.C.im), .d (.sl false (x126.Feeder.Buses.map eSBus)), .d (.sl false (x126.Ties.map eSTie))]), (251, .d (.int .i64 (w64 ((1 : Int) + x130)))), (252, .row 1 v151.length 0 v151.length)]) (objs := [.box [.d (.cx .f32 x126.Feeder.Source.A.re x126.Feeder.Source.A.im), .d (.cx .f32 x126.Feeder.Source.B.re x126.Feeder.Source.B.im), .d (.cx .f32 x126.Feeder.Source.C.re x126.Feeder.Source.C.im), .d (.sl false (x126.Feeder.Buses.map eSBus)), .d (.sl false (x126.Ties.map eSTie))], .row 1 (v151.map eInti64), .row 1 (x152.1.map eInti64), .row 1 (x157.1.map eInti64)]) rfl (by simp) rfl (by repeat' first | exact trivial | refine ⟨?_, ?_⟩) ⟨rfl, trivial, rfl, trivial, rfl, trivial, rfl, trivial, rfl, trivial, rfl, trivial, rfl, (by repeat' first | exact trivial | refine ⟨?_, ?_⟩), rfl, trivial, rfl, trivial, trivial⟩) ?_
                refine bnd_elim h fun x230 hx230 h => ?_
                refine awl_callP hτ true [] rfl rfl rfl (enterOk func17 rfl rfl) (mapO_cons rfl (mapO_cons rfl (mapO_cons (exV_view (f := eInti64) v151 rfl rfl rfl) mapO_nil))) rfl (by simp) ⟨(by repeat' first | exact trivial | refine ⟨?_, ?_⟩), trivial, (exVP_view (f := eInti64) v151 rfl rfl rfl), trivial⟩ (by repeat' first | exact trivial | refine ⟨?_, ?_⟩) (impl_CustomersLit_ok_fr n x126 (w64 ((1 : Int) + x130)) v151 hx230) ?_
                rintro r0 o0 n0 ⟨rfl, rfl, rfl⟩ -
                refine awl_val hτ rfl rfl rfl ?_
                refine awl_val hτ rfl rfl rfl ?_
                refine awl_val hτ rfl rfl rfl ?_
                refine awl_val hτ rfl rfl rfl ?_
                refine awl_val hτ rfl rfl rfl ?_
                refine awl_nil ?_
                refine aw_hk1 (ι := Unit) (fun _ => St.of [(8, .row 0 v151.length 0 v151.length), (10, .row 1 x152.1.length 0 x152.1.length), (20, .row 2 x157.1.length 0 x157.1.length), (22, .d (.int .i64 v207)), (27, .d (.bool x230.2))] [.row 1 (v151.map eInti64), .row 1 (x152.1.map eInti64), .row 1 (x157.1.map eInti64)] f3.ntmps 0) (fun _ => m_laws_FnLit_j5 n v151 x152 x157 v207 x230 = some r) ?_ (fun hk251 => ?_)
                · rintro ⟨⟩ h
                  replace h : m_laws_FnLit_j5 n v151 x152 x157 v207 x230 = some r := h
                  unfold m_laws_FnLit_j5 at h
                  refine aw_seq ?_
                  refine aw_region ?_
                  refine awl_val hτ rfl rfl rfl ?_
                  refine awl_val hτ rfl rfl rfl ?_
                  refine awl_split 292 rfl (fun hb249 => ?_) (fun hb249 => ?_)
                  · have h := if_bt h hb249
                    refine awl_val hτ rfl rfl rfl ?_
                    refine awl_val hτ rfl rfl rfl ?_
                    refine awl_need hτ rfl rfl rfl (len_map _) ?_
                    refine awl_val hτ (v := .d (.bool (decide (v207 = (x152.1.length : Int))))) rfl rfl (or_ieq _ _) ?_
                    refine awl_val hτ rfl rfl rfl ?_
                    refine awl_val hτ rfl rfl rfl ?_
                    refine awl_split 298 rfl (fun hb250 => ?_) (fun hb250 => ?_)
                    · have h := if_t h hb250
                      refine awl_val hτ rfl rfl rfl ?_
                      refine awl_need hτ rfl rfl rfl (len_map _) ?_
                      refine awl_val hτ rfl rfl rfl ?_
                      refine awl_need hτ rfl rfl rfl (len_map _) ?_
                      refine awl_weak (weak_ofP [] (l := [(298, .d (.bool true)), (300, .d (.int .i64 (x157.1.length : Int))), (302, .d (.int .i64 (v151.length : Int)))]) (objs := []) rfl (by simp) rfl (by repeat' first | exact trivial | refine ⟨?_, ?_⟩) ⟨rfl, trivial, rfl, trivial, rfl, trivial, trivial⟩) ?_
                      refine awl_val hτ (v := .d (.bool (decide ((x157.1.length : Int) = (v151.length : Int))))) rfl rfl (or_ieq _ _) ?_
                      refine awl_val hτ rfl rfl rfl ?_
                      refine awl_val hτ rfl rfl rfl ?_
                      refine awl_nil ?_
                      refine aw_weak (weak_ofP [] (l := [(4, .d (.bool (decide ((x157.1.length : Int) = (v151.length : Int)))))]) (objs := []) rfl (by simp) rfl (by repeat' first | exact trivial | refine ⟨?_, ?_⟩) ⟨rfl, trivial, trivial⟩) ?_
                      refine aw_ret ?_
                      have hr := Option.some.inj h
                      subst hr
                      exact ret_objs (.inr rfl) [] (objs' := []) (new := []) rfl (by simp) (by simp) rfl (by repeat' first | exact trivial | refine ⟨?_, ?_⟩) rfl rfl (by repeat' first | exact trivial | refine ⟨?_, ?_⟩) (fun _ => ⟨by simp [V.flat, V.flatA, V.flatC, D.flat], flat_nil⟩) ⟨rfl, rfl, rfl⟩
                    · have h := if_f h hb250
                      refine awl_skip rfl rfl ?_
                      refine awl_skip rfl rfl ?_
                      refine awl_skip rfl rfl ?_
                      refine awl_skip rfl rfl ?_
                      refine awl_weak (weak_ofP [] (l := [(298, .d (.bool false)), (300, .und), (302, .und)]) (objs := []) rfl (by simp) rfl (by repeat' first | exact trivial | refine ⟨?_, ?_⟩) ⟨rfl, trivial, rfl, trivial, rfl, trivial, trivial⟩) ?_
                      refine awl_skip rfl rfl ?_
                      refine awl_val hτ rfl rfl rfl ?_
                      refine awl_val hτ rfl rfl rfl ?_
                      refine awl_nil ?_
                      refine aw_weak (weak_ofP [] (l := [(4, .d (.bool false))]) (objs := []) rfl (by simp) rfl (by repeat' first | exact trivial | refine ⟨?_, ?_⟩) ⟨rfl, trivial, trivial⟩) ?_
                      refine aw_ret ?_
                      have hr := Option.some.inj h
                      subst hr
                      exact ret_objs (.inr rfl) [] (objs' := []) (new := []) rfl (by simp) (by simp) rfl (by repeat' first | exact trivial | refine ⟨?_, ?_⟩) rfl rfl (by repeat' first | exact trivial | refine ⟨?_, ?_⟩) (fun _ => ⟨by simp [V.flat, V.flatA, V.flatC, D.flat], flat_nil⟩) ⟨rfl, rfl, rfl⟩
                  · have h := if_bf h hb249
                    refine awl_skip rfl rfl ?_
                    refine awl_skip rfl rfl ?_
                    refine awl_skip rfl rfl ?_
                    refine awl_skip rfl rfl ?_
                    refine awl_val hτ rfl rfl rfl ?_
                    refine awl_val hτ rfl rfl rfl ?_
                    refine awl_skip rfl rfl ?_
                    refine awl_skip rfl rfl ?_
                    refine awl_skip rfl rfl ?_
                    refine awl_skip rfl rfl ?_
                    refine awl_weak (weak_ofP [] (l := [(298, .d (.bool false)), (300, .und), (302, .und)]) (objs := []) rfl (by simp) rfl (by repeat' first | exact trivial | refine ⟨?_, ?_⟩) ⟨rfl, trivial, rfl, trivial, rfl, trivial, trivial⟩) ?_
                    refine awl_skip rfl rfl ?_
                    refine awl_val hτ rfl rfl rfl ?_
                    refine awl_val hτ rfl rfl rfl ?_
                    refine awl_nil ?_
                    refine aw_weak (weak_ofP [] (l := [(4, .d (.bool false))]) (objs := []) rfl (by simp) rfl (by repeat' first | exact trivial | refine ⟨?_, ?_⟩) ⟨rfl, trivial, trivial⟩) ?_
                    refine aw_ret ?_
                    have hr := Option.some.inj h
                    subst hr
                    exact ret_objs (.inr rfl) [] (objs' := []) (new := []) rfl (by simp) (by simp) rfl (by repeat' first | exact trivial | refine ⟨?_, ?_⟩) rfl rfl (by repeat' first | exact trivial | refine ⟨?_, ?_⟩) (fun _ => ⟨by simp [V.flat, V.flatA, V.flatC, D.flat], flat_nil⟩) ⟨rfl, rfl, rfl⟩
                · refine aw_seq ?_
                  refine aw_seq ?_
                  refine aw_weak (weak_ofP [0, 1, 2, 3] (l := [(5, .ptr 0 0), (7, .d (.int .i64 (w64 ((1 : Int) + x130)))), (8, .row 1 v151.length 0 v151.length), (10, .row 2 x152.1.length 0 x152.1.length), (20, .row 3 x157.1.length 0 x157.1.length), (22, .d (.int .i64 v207)), (26, .d (.int .i64 x230.1)), (27, .d (.bool x230.2))]) (objs := [.box [.d (.cx .f32 x126.Feeder.Source.A.re x126.Feeder.Source.A.im), .d (.cx .f32 x126.Feeder.Source.B.re x126.Feeder.Source.B.im), .d (.cx .f32 x126.Feeder.Source.C.re x126.Feeder.Source.C.im), .d (.sl false (x126.Feeder.Buses.map eSBus)), .d (.sl false (x126.Ties.map eSTie))], .row 1 (v151.map eInti64), .row 1 (x152.1.map eInti64), .row 1 (x157.1.map eInti64)]) rfl (by simp) rfl (by repeat' first | exact trivial | refine ⟨?_, ?_⟩) ⟨rfl, trivial, rfl, trivial, rfl, trivial, rfl, trivial, rfl, trivial, rfl, trivial, rfl, trivial, rfl, trivial, trivial⟩) ?_
                  refine aw_region ?_
                  refine awl_val hτ rfl rfl rfl ?_
                  refine awl_nil ?_
                  refine aw_block ?_
                  refine aw_loop (ι := Nat × Int) (fun (m270, v260) => St.of [(5, .ptr 0 0), (7, .d (.int .i64 (w64 ((1 : Int) + x130)))), (8, .row 1 v151.length 0 v151.length), (10, .row 2 x152.1.length 0 x152.1.length), (20, .row 3 x157.1.length 0 x157.1.length), (22, .d (.int .i64 v207)), (26, .d (.int .i64 x230.1)), (27, .d (.bool x230.2)), (28, .d (.int .i64 v260))] [.box [.d (.cx .f32 x126.Feeder.Source.A.re x126.Feeder.Source.A.im), .d (.cx .f32 x126.Feeder.Source.B.re x126.Feeder.Source.B.im), .d (.cx .f32 x126.Feeder.Source.C.re x126.Feeder.Source.C.im), .d (.sl false (x126.Feeder.Buses.map eSBus)), .d (.sl false (x126.Ties.map eSTie))], .row 1 (v151.map eInti64), .row 1 (x152.1.map eInti64), .row 1 (x157.1.map eInti64)] f3.ntmps 0) (fun (m270, v260) => m_laws_FnLit_l6 n x126 x130 v151 x152 x157 v207 x230 m270 v260 = some r) (fun x => x.1) (n, (0 : Int)) h (weak_ofP [0, 1, 2, 3] (l := [(5, .ptr 0 0), (7, .d (.int .i64 (w64 ((1 : Int) + x130)))), (8, .row 1 v151.length 0 v151.length), (10, .row 2 x152.1.length 0 x152.1.length), (20, .row 3 x157.1.length 0 x157.1.length), (22, .d (.int .i64 v207)), (26, .d (.int .i64 x230.1)), (27, .d (.bool x230.2)), (28, .d (.int .i64 (0 : Int)))]) (objs := [.box [.d (.cx .f32 x126.Feeder.Source.A.re x126.Feeder.Source.A.im), .d (.cx .f32 x126.Feeder.Source.B.re x126.Feeder.Source.B.im), .d (.cx .f32 x126.Feeder.Source.C.re x126.Feeder.Source.C.im), .d (.sl false (x126.Feeder.Buses.map eSBus)), .d (.sl false (x126.Ties.map eSTie))], .row 1 (v151.map eInti64), .row 1 (x152.1.map eInti64), .row 1 (x157.1.map eInti64)]) rfl (by simp) rfl (by repeat' first | exact trivial | refine ⟨?_, ?_⟩) ⟨rfl, trivial, rfl, trivial, rfl, trivial, rfl, trivial, rfl, trivial, rfl, trivial, rfl, trivial, rfl, trivial, rfl, trivial, trivial⟩) ?_
                  rintro ⟨m270, v260⟩ h
                  replace h : m_laws_FnLit_l6 n x126 x130 v151 x152 x157 v207 x230 m270 v260 = some r := h
                  rcases m270 with _ | m270
                  · rw [m_laws_FnLit_l6] at h; cases h
                  rw [m_laws_FnLit_l6] at h
                  refine aw_seq ?_
                  refine aw_seq ?_
                  refine aw_region ?_
                  refine awl_val hτ rfl rfl rfl ?_
                  refine awl_val hτ rfl rfl rfl ?_
                  refine awl_need hτ rfl rfl rfl (len_map _) ?_
                  refine awl_val hτ rfl rfl rfl ?_
                  refine awl_nil ?_
                  refine aw_cond rfl (fun hc272 => ?_) (fun hc272 => ?_)
                  · have h := if_t h hc272
                    refine aw_skip ?_
                    refine aw_hk1 (ι := Unit) (fun _ => St.of [(5, .ptr 0 0), (7, .d (.int .i64 (w64 ((1 : Int) + x130)))), (8, .row 1 v151.length 0 v151.length), (10, .row 2 x152.1.length 0 x152.1.length), (20, .row 3 x157.1.length 0 x157.1.length), (22, .d (.int .i64 v207)), (26, .d (.int .i64 x230.1)), (27, .d (.bool x230.2)), (28, .d (.int .i64 v260))] [.box [.d (.cx .f32 x126.Feeder.Source.A.re x126.Feeder.Source.A.im), .d (.cx .f32 x126.Feeder.Source.B.re x126.Feeder.Source.B.im), .d (.cx .f32 x126.Feeder.Source.C.re x126.Feeder.Source.C.im), .d (.sl false (x126.Feeder.Buses.map eSBus)), .d (.sl false (x126.Ties.map eSTie))], .row 1 (v151.map eInti64), .row 1 (x152.1.map eInti64), .row 1 (x157.1.map eInti64)] f3.ntmps 0) (fun _ => m_laws_FnLit_j7 n (m_laws_FnLit_l6 n x126 x130 v151 x152 x157 v207 x230 m270) v260 = some r) ?_ (fun hk281 => ?_)
                    · rintro ⟨⟩ h
                      replace h : m_laws_FnLit_j7 n (m_laws_FnLit_l6 n x126 x130 v151 x152 x157 v207 x230 m270) v260 = some r := h
                      unfold m_laws_FnLit_j7 at h
                      refine aw_region ?_
                      refine awl_val hτ rfl rfl rfl ?_
                      refine awl_val hτ rfl rfl rfl ?_
                      refine awl_val hτ rfl rfl rfl ?_
                      refine awl_nil ?_
                      exact ⟨(m270, (w64 (v260 + (1 : Int)))), h, Nat.lt_succ_self m270, (weak_ofP [0, 1, 2, 3] (l := [(5, .ptr 0 0), (7, .d (.int .i64 (w64 ((1 : Int) + x130)))), (8, .row 1 v151.length 0 v151.length), (10, .row 2 x152.1.length 0 x152.1.length), (20, .row 3 x157.1.length 0 x157.1.length), (22, .d (.int .i64 v207)), (26, .d (.int .i64 x230.1)), (27, .d (.bool x230.2)), (28, .d (.int .i64 (w64 (v260 + (1 : Int)))))]) (objs := [.box [.d (.cx .f32 x126.Feeder.Source.A.re x126.Feeder.Source.A.im), .d (.cx .f32 x126.Feeder.Source.B.re x126.Feeder.Source.B.im), .d (.cx .f32 x126.Feeder.Source.C.re x126.Feeder.Source.C.im), .d (.sl false (x126.Feeder.Buses.map eSBus)), .d (.sl false (x126.Ties.map eSTie))], .row 1 (v151.map eInti64), .row 1 (x152.1.map eInti64), .row 1 (x157.1.map eInti64)]) rfl (by simp) rfl (by repeat' first | exact trivial | refine ⟨?_, ?_⟩) ⟨rfl, trivial, rfl, trivial, rfl, trivial, rfl, trivial, rfl, trivial, rfl, trivial, rfl, trivial, rfl, trivial, rfl, trivial, trivial⟩)⟩
                    · refine aw_seq ?_
                      refine aw_block ?_
                      refine aw_seq ?_
                      refine any_start ?_
                      refine any_val hτ [] 1 rfl rfl rfl rfl rfl ?_
                      refine any_val hτ [] 2 rfl rfl rfl rfl rfl ?_
                      refine grd_elim h fun hg282 h => ?_
                      refine any_need hτ (v := .row 1 v151.length (0 + (0 : Int).toNat) (v260.toNat - (0 : Int).toNat)) [1] 3 rfl rfl rfl rfl rfl ⟨(len_map _), hg282.1, hg282.2.1, hg282.2.2.1, by omega, hg282.2.2.2⟩ ?_
                      refine any_val hτ [] 5 rfl rfl rfl rfl rfl ?_
                      refine any_val hτ [] 6 rfl rfl rfl rfl rfl ?_
                      refine any_val hτ [] 7 rfl rfl rfl rfl rfl ?_
                      refine grd_elim h fun hg283 h => ?_
                      refine any_need hτ (v := .row 1 v151.length (0 + (w64 (v260 + (1 : Int))).toNat) ((v151.length : Int).toNat - (w64 (v260 + (1 : Int))).toNat)) [1] 8 rfl rfl rfl rfl rfl ⟨(len_map _), hg283.1, hg283.2.1, hg283.2.2.1, by omega, hg283.2.2.2⟩ ?_
                      refine any_valHP hτ [0, 1, 2, 3] 0 rfl rfl rfl rfl ⟨rfl, rfl, rfl, rfl, trivial⟩ ?_
                      refine grd_elim h fun hg284 h => ?_
                      refine any_needHP hτ [0, 1, 2, 3] 4 rfl rfl rfl (Eq.trans rfl (or_append (f := eInti64) ([] : List Int) (((v151).drop (0 + (0 : Int).toNat)).take (v260.toNat - (0 : Int).toNat)) (map_sub _ _ _))) ⟨⟨len_map _, by omega⟩, len_map _, rfl, rfl, (by rw [map_sub]; exact room_map (f := eInti64) hg284), by decide, (by rw [map_sub]; exact map_lens (f := eInti64) (fun _ => rfl) _)⟩ ⟨rfl, rfl, rfl, rfl, trivial⟩ ?_
                      refine grd_elim h fun hg285 h => ?_
                      refine any_needHP hτ [0, 1, 2, 3] 9 rfl rfl rfl (Eq.trans rfl (or_append (f := eInti64) (([] : List Int) ++ (((v151).drop (0 + (0 : Int).toNat)).take (v260.toNat - (0 : Int).toNat))) (((v151).drop (0 + (w64 (v260 + (1 : Int))).toNat)).take ((v151.length : Int).toNat - (w64 (v260 + (1 : Int))).toNat)) (map_sub _ _ _))) ⟨⟨len_map _, by omega⟩, len_map _, rfl, rfl, (by rw [map_sub]; exact room_map (f := eInti64) hg285), by decide, (by rw [map_sub]; exact map_lens (f := eInti64) (fun _ => rfl) _)⟩ ⟨rfl, rfl, rfl, rfl, trivial⟩ ?_
                      refine any_val hτ [] 10 rfl rfl rfl rfl rfl ?_
                      refine any_done mixed (by kernel_rfl) ?_
                      refine aw_seq ?_
                      refine aw_weak (weak_ofP [0, 1, 2, 3, 4] (l := [(5, .ptr 0 0), (7, .d (.int .i64 (w64 ((1 : Int) + x130)))), (8, .row 1 v151.length 0 v151.length), (10, .row 2 x152.1.length 0 x152.1.length), (20, .row 3 x157.1.length 0 x157.1.length), (22, .d (.int .i64 v207)), (26, .d (.int .i64 x230.1)), (27, .d (.bool x230.2)), (28, .d (.int .i64 v260)), (29, .row 4 (((([] : List Int) ++ (((v151).drop (0 + (0 : Int).toNat)).take (v260.toNat - (0 : Int).toNat))) ++ (((v151).drop (0 + (w64 (v260 + (1 : Int))).toNat)).take ((v151.length : Int).toNat - (w64 (v260 + (1 : Int))).toNat))).length) 0 (((([] : List Int) ++ (((v151).drop (0 + (0 : Int).toNat)).take (v260.toNat - (0 : Int).toNat))) ++ (((v151).drop (0 + (w64 (v260 + (1 : Int))).toNat)).take ((v151.length : Int).toNat - (w64 (v260 + (1 : Int))).toNat))).length))]) (objs := [.box [.d (.cx .f32 x126.Feeder.Source.A.re x126.Feeder.Source.A.im), .d (.cx .f32 x126.Feeder.Source.B.re x126.Feeder.Source.B.im), .d (.cx .f32 x126.Feeder.Source.C.re x126.Feeder.Source.C.im), .d (.sl false (x126.Feeder.Buses.map eSBus)), .d (.sl false (x126.Ties.map eSTie))], .row 1 (v151.map eInti64), .row 1 (x152.1.map eInti64), .row 1 (x157.1.map eInti64), .row 1 (((([] : List Int) ++ (((v151).drop (0 + (0 : Int).toNat)).take (v260.toNat - (0 : Int).toNat))) ++ (((v151).drop (0 + (w64 (v260 + (1 : Int))).toNat)).take ((v151.length : Int).toNat - (w64 (v260 + (1 : Int))).toNat))).map eInti64)]) rfl (by simp) rfl (by repeat' first | exact trivial | refine ⟨?_, ?_⟩) ⟨rfl, trivial, rfl, trivial, rfl, trivial, rfl, trivial, rfl, trivial, rfl, trivial, rfl, trivial, rfl, trivial, rfl, trivial, rfl, trivial, trivial⟩) ?_
                      refine aw_region ?_
                      refine awl_val hτ rfl rfl rfl ?_
                      refine awl_val hτ rfl rfl rfl ?_
                      refine awl_val hτ rfl rfl rfl ?_
                      refine awl_weak (weak_ofP [0, 1, 2, 3, 4] (l := [(5, .ptr 0 0), (7, .d (.int .i64 (w64 ((1 : Int) + x130)))), (8, .row 1 v151.length 0 v151.length), (10, .row 2 x152.1.length 0 x152.1.length), (20, .row 3 x157.1.length 0 x157.1.length), (22, .d (.int .i64 v207)), (26, .d (.int .i64 x230.1)), (27, .d (.bool x230.2)), (28, .d (.int .i64 v260)), (273, .agg [.d (.cx .f32 x126.Feeder.Source.A.re x126.Feeder.Source.A.im), .d (.cx .f32 x126.Feeder.Source.B.re x126.Feeder.Source.B.im), .d (.cx .f32 x126.Feeder.Source.C.re x126.Feeder.Source.C.im), .d (.sl false (x126.Feeder.Buses.map eSBus)), .d (.sl false (x126.Ties.map eSTie))]), (274, .d (.int .i64 (w64 ((1 : Int) + x130)))), (275, .row 4 (((([] : List Int) ++ (((v151).drop (0 + (0 : Int).toNat)).take (v260.toNat - (0 : Int).toNat))) ++ (((v151).drop (0 + (w64 (v260 + (1 : Int))).toNat)).take ((v151.length : Int).toNat - (w64 (v260 + (1 : Int))).toNat))).length) 0 (((([] : List Int) ++ (((v151).drop (0 + (0 : Int).toNat)).take (v260.toNat - (0 : Int).toNat))) ++ (((v151).drop (0 + (w64 (v260 + (1 : Int))).toNat)).take ((v151.length : Int).toNat - (w64 (v260 + (1 : Int))).toNat))).length))]) (objs := [.box [.d (.cx .f32 x126.Feeder.Source.A.re x126.Feeder.Source.A.im), .d (.cx .f32 x126.Feeder.Source.B.re x126.Feeder.Source.B.im), .d (.cx .f32 x126.Feeder.Source.C.re x126.Feeder.Source.C.im), .d (.sl false (x126.Feeder.Buses.map eSBus)), .d (.sl false (x126.Ties.map eSTie))], .row 1 (v151.map eInti64), .row 1 (x152.1.map eInti64), .row 1 (x157.1.map eInti64), .row 1 (((([] : List Int) ++ (((v151).drop (0 + (0 : Int).toNat)).take (v260.toNat - (0 : Int).toNat))) ++ (((v151).drop (0 + (w64 (v260 + (1 : Int))).toNat)).take ((v151.length : Int).toNat - (w64 (v260 + (1 : Int))).toNat))).map eInti64)]) rfl (by simp) rfl (by repeat' first | exact trivial | refine ⟨?_, ?_⟩) ⟨rfl, trivial, rfl, trivial, rfl, trivial, rfl, trivial, rfl, trivial, rfl, trivial, rfl, trivial, rfl, trivial, rfl, trivial, rfl, (by repeat' first | exact trivial | refine ⟨?_, ?_⟩), rfl, trivial, rfl, trivial, trivial⟩) ?_
                      refine bnd_elim h fun x286 hx286 h => ?_
                      refine awl_callP hτ true [] rfl rfl rfl (enterOk func17 rfl rfl) (mapO_cons rfl (mapO_cons rfl (mapO_cons (exV_view (f := eInti64) ((([] : List Int) ++ (((v151).drop (0 + (0 : Int).toNat)).take (v260.toNat - (0 : Int).toNat))) ++ (((v151).drop (0 + (w64 (v260 + (1 : Int))).toNat)).take ((v151.length : Int).toNat - (w64 (v260 + (1 : Int))).toNat))) rfl rfl rfl) mapO_nil))) rfl (by simp) ⟨(by repeat' first | exact trivial | refine ⟨?_, ?_⟩), trivial, (exVP_view (f := eInti64) ((([] : List Int) ++ (((v151).drop (0 + (0 : Int).toNat)).take (v260.toNat - (0 : Int).toNat))) ++ (((v151).drop (0 + (w64 (v260 + (1 : Int))).toNat)).take ((v151.length : Int).toNat - (w64 (v260 + (1 : Int))).toNat))) rfl rfl rfl), trivial⟩ (by repeat' first | exact trivial | refine ⟨?_, ?_⟩) (impl_CustomersLit_ok_fr n x126 (w64 ((1 : Int) + x130)) ((([] : List Int) ++ (((v151).drop (0 + (0 : Int).toNat)).take (v260.toNat - (0 : Int).toNat))) ++ (((v151).drop (0 + (w64 (v260 + (1 : Int))).toNat)).take ((v151.length : Int).toNat - (w64 (v260 + (1 : Int))).toNat))) hx286) ?_
                      rintro r0 o0 n0 ⟨rfl, rfl, rfl⟩ -
                      refine awl_val hτ rfl rfl rfl ?_
                      refine awl_val hτ rfl rfl rfl ?_
                      refine awl_val hτ rfl rfl rfl ?_
                      refine awl_val hτ rfl rfl rfl ?_
                      refine awl_val hτ rfl rfl rfl ?_
                      refine awl_nil ?_
                      refine aw_hk1 (ι := Bool) (fun v290 => St.of [(5, .ptr 0 0), (7, .d (.int .i64 (w64 ((1 : Int) + x130)))), (8, .row 1 v151.length 0 v151.length), (10, .row 2 x152.1.length 0 x152.1.length), (20, .row 3 x157.1.length 0 x157.1.length), (22, .d (.int .i64 v207)), (26, .d (.int .i64 x230.1)), (27, .d (.bool x230.2)), (28, .d (.int .i64 v260)), (290, .d (.bool v290))] [.box [.d (.cx .f32 x126.Feeder.Source.A.re x126.Feeder.Source.A.im), .d (.cx .f32 x126.Feeder.Source.B.re x126.Feeder.Source.B.im), .d (.cx .f32 x126.Feeder.Source.C.re x126.Feeder.Source.C.im), .d (.sl false (x126.Feeder.Buses.map eSBus)), .d (.sl false (x126.Ties.map eSTie))], .row 1 (v151.map eInti64), .row 1 (x152.1.map eInti64), .row 1 (x157.1.map eInti64)] f3.ntmps 0) (fun v290 => m_laws_FnLit_j8 n (m_laws_FnLit_l6 n x126 x130 v151 x152 x157 v207 x230 m270) v260 v290 = some r) ?_ (fun hk292 => ?_)
                      · rintro v290 h
                        replace h : m_laws_FnLit_j8 n (m_laws_FnLit_l6 n x126 x130 v151 x152 x157 v207 x230 m270) v260 v290 = some r := h
                        unfold m_laws_FnLit_j8 at h
                        refine aw_cond rfl (fun hc291 => ?_) (fun hc291 => ?_)
                        · have h := if_bt h hc291
                          refine aw_seq ?_
                          refine aw_region ?_
                          refine awl_val hτ rfl rfl rfl ?_
                          refine awl_nil ?_
                          refine aw_weak (weak_ofP [] (l := [(4, .d (.bool false))]) (objs := []) rfl (by simp) rfl (by repeat' first | exact trivial | refine ⟨?_, ?_⟩) ⟨rfl, trivial, trivial⟩) ?_
                          refine aw_ret ?_
                          have hr := Option.some.inj h
                          subst hr
                          exact ret_objs (.inr rfl) [] (objs' := []) (new := []) rfl (by simp) (by simp) rfl (by repeat' first | exact trivial | refine ⟨?_, ?_⟩) rfl rfl (by repeat' first | exact trivial | refine ⟨?_, ?_⟩) (fun _ => ⟨by simp [V.flat, V.flatA, V.flatC, D.flat], flat_nil⟩) ⟨rfl, rfl, rfl⟩
                        · have h := if_bf h hc291
                          refine aw_skip ?_
                          refine aw_weak (weak_ofP [0, 1, 2, 3] (l := [(5, .ptr 0 0), (7, .d (.int .i64 (w64 ((1 : Int) + x130)))), (8, .row 1 v151.length 0 v151.length), (10, .row 2 x152.1.length 0 x152.1.length), (20, .row 3 x157.1.length 0 x157.1.length), (22, .d (.int .i64 v207)), (26, .d (.int .i64 x230.1)), (27, .d (.bool x230.2)), (28, .d (.int .i64 v260))]) (objs := [.box [.d (.cx .f32 x126.Feeder.Source.A.re x126.Feeder.Source.A.im), .d (.cx .f32 x126.Feeder.Source.B.re x126.Feeder.Source.B.im), .d (.cx .f32 x126.Feeder.Source.C.re x126.Feeder.Source.C.im), .d (.sl false (x126.Feeder.Buses.map eSBus)), .d (.sl false (x126.Ties.map eSTie))], .row 1 (v151.map eInti64), .row 1 (x152.1.map eInti64), .row 1 (x157.1.map eInti64)]) rfl (by simp) rfl (by repeat' first | exact trivial | refine ⟨?_, ?_⟩) ⟨rfl, trivial, rfl, trivial, rfl, trivial, rfl, trivial, rfl, trivial, rfl, trivial, rfl, trivial, rfl, trivial, rfl, trivial, trivial⟩) ?_
                          exact hk281 () h
                      · refine aw_seq ?_
                        refine aw_weak (weak_ofP [0, 1, 2, 3] (l := [(5, .ptr 0 0), (7, .d (.int .i64 (w64 ((1 : Int) + x130)))), (8, .row 1 v151.length 0 v151.length), (10, .row 2 x152.1.length 0 x152.1.length), (20, .row 3 x157.1.length 0 x157.1.length), (22, .d (.int .i64 v207)), (26, .d (.int .i64 x230.1)), (27, .d (.bool x230.2)), (28, .d (.int .i64 v260)), (30, .d (.int .i64 x286.1)), (31, .d (.bool x286.2))]) (objs := [.box [.d (.cx .f32 x126.Feeder.Source.A.re x126.Feeder.Source.A.im), .d (.cx .f32 x126.Feeder.Source.B.re x126.Feeder.Source.B.im), .d (.cx .f32 x126.Feeder.Source.C.re x126.Feeder.Source.C.im), .d (.sl false (x126.Feeder.Buses.map eSBus)), .d (.sl false (x126.Ties.map eSTie))], .row 1 (v151.map eInti64), .row 1 (x152.1.map eInti64), .row 1 (x157.1.map eInti64)]) rfl (by simp) rfl (by repeat' first | exact trivial | refine ⟨?_, ?_⟩) ⟨rfl, trivial, rfl, trivial, rfl, trivial, rfl, trivial, rfl, trivial, rfl, trivial, rfl, trivial, rfl, trivial, rfl, trivial, rfl, trivial, rfl, trivial, trivial⟩) ?_
                        refine aw_region ?_
                        refine awl_val hτ rfl rfl rfl ?_
                        refine awl_val hτ rfl rfl rfl ?_
                        refine awl_val hτ rfl rfl rfl ?_
                        refine awl_split 281 rfl (fun hb293 => ?_) (fun hb293 => ?_)
                        · have hb293 := not_t hb293
                          have h := if_bf h hb293
                          refine awl_skip rfl rfl ?_
                          refine awl_skip rfl rfl ?_
                          refine awl_skip rfl rfl ?_
                          refine awl_skip rfl rfl ?_
                          refine awl_skip rfl rfl ?_
                          refine awl_skip rfl rfl ?_
                          refine awl_skip rfl rfl ?_
                          refine awl_skip rfl rfl ?_
                          refine awl_val hτ rfl rfl rfl ?_
                          refine awl_nil ?_
                          refine aw_weak (weak_ofP [0, 1, 2, 3] (l := [(5, .ptr 0 0), (7, .d (.int .i64 (w64 ((1 : Int) + x130)))), (8, .row 1 v151.length 0 v151.length), (10, .row 2 x152.1.length 0 x152.1.length), (20, .row 3 x157.1.length 0 x157.1.length), (22, .d (.int .i64 v207)), (26, .d (.int .i64 x230.1)), (27, .d (.bool x230.2)), (28, .d (.int .i64 v260)), (290, .d (.bool true))]) (objs := [.box [.d (.cx .f32 x126.Feeder.Source.A.re x126.Feeder.Source.A.im), .d (.cx .f32 x126.Feeder.Source.B.re x126.Feeder.Source.B.im), .d (.cx .f32 x126.Feeder.Source.C.re x126.Feeder.Source.C.im), .d (.sl false (x126.Feeder.Buses.map eSBus)), .d (.sl false (x126.Ties.map eSTie))], .row 1 (v151.map eInti64), .row 1 (x152.1.map eInti64), .row 1 (x157.1.map eInti64)]) rfl (by simp) rfl (by repeat' first | exact trivial | refine ⟨?_, ?_⟩) ⟨rfl, trivial, rfl, trivial, rfl, trivial, rfl, trivial, rfl, trivial, rfl, trivial, rfl, trivial, rfl, trivial, rfl, trivial, rfl, trivial, trivial⟩) ?_
                          exact hk292 true h
                        · have hb293 := not_f hb293
                          have h := if_bt h hb293
                          refine awl_val hτ rfl rfl rfl ?_
                          refine awl_val hτ rfl rfl rfl ?_
                          refine bnd_elim h fun x294 hx294 h => ?_
                          refine awl_need hτ rfl rfl rfl (row_need hx294) ?_
                          refine awl_elem hτ rfl rfl rfl (len_map _) (row_get hx294) rfl ?_
                          refine awl_val hτ rfl rfl rfl ?_
                          refine awl_val hτ rfl rfl rfl ?_
                          refine awl_val hτ rfl rfl rfl ?_
                          refine awl_val hτ (v := .d (.bool (!(decide (x294 = (w64 (x230.1 - x286.1))))))) rfl rfl (or_ine _ _) ?_
                          refine awl_val hτ rfl rfl rfl ?_
                          refine awl_nil ?_
                          refine aw_weak (weak_ofP [0, 1, 2, 3] (l := [(5, .ptr 0 0), (7, .d (.int .i64 (w64 ((1 : Int) + x130)))), (8, .row 1 v151.length 0 v151.length), (10, .row 2 x152.1.length 0 x152.1.length), (20, .row 3 x157.1.length 0 x157.1.length), (22, .d (.int .i64 v207)), (26, .d (.int .i64 x230.1)), (27, .d (.bool x230.2)), (28, .d (.int .i64 v260)), (290, .d (.bool (!(decide (x294 = (w64 (x230.1 - x286.1)))))))]) (objs := [.box [.d (.cx .f32 x126.Feeder.Source.A.re x126.Feeder.Source.A.im), .d (.cx .f32 x126.Feeder.Source.B.re x126.Feeder.Source.B.im), .d (.cx .f32 x126.Feeder.Source.C.re x126.Feeder.Source.C.im), .d (.sl false (x126.Feeder.Buses.map eSBus)), .d (.sl false (x126.Ties.map eSTie))], .row 1 (v151.map eInti64), .row 1 (x152.1.map eInti64), .row 1 (x157.1.map eInti64)]) rfl (by simp) rfl (by repeat' first | exact trivial | refine ⟨?_, ?_⟩) ⟨rfl, trivial, rfl, trivial, rfl, trivial, rfl, trivial, rfl, trivial, rfl, trivial, rfl, trivial, rfl, trivial, rfl, trivial, rfl, trivial, trivial⟩) ?_
                          exact hk292 (!(decide (x294 = (w64 (x230.1 - x286.1))))) h
                  · have h := if_f h hc272
                    refine aw_exit ?_
                    refine aw_weak (weak_ofP [1, 2, 3] (l := [(8, .row 0 v151.length 0 v151.length), (10, .row 1 x152.1.length 0 x152.1.length), (20, .row 2 x157.1.length 0 x157.1.length), (22, .d (.int .i64 v207)), (27, .d (.bool x230.2))]) (objs := [.row 1 (v151.map eInti64), .row 1 (x152.1.map eInti64), .row 1 (x157.1.map eInti64)]) rfl (by simp) rfl (by repeat' first | exact trivial | refine ⟨?_, ?_⟩) ⟨rfl, trivial, rfl, trivial, rfl, trivial, rfl, trivial, rfl, trivial, trivial⟩) ?_
                    exact hk251 () h
            · refine aw_seq ?_
              refine aw_seq ?_
              refine aw_region ?_
              refine awl_val hτ rfl rfl rfl ?_
              refine awl_nil ?_
              refine aw_block ?_
              refine aw_loop (ι := Nat × Int) (fun (m314, v304) => St.of [(5, .ptr 0 0), (6, .d (.int .i64 (x126.Feeder.Buses.length : Int))), (7, .d (.int .i64 (w64 ((1 : Int) + x130)))), (8, .row 1 v151.length 0 v151.length), (10, .row 2 x152.1.length 0 x152.1.length), (14, .row 3 x154.1.length 0 x154.1.length), (16, .row 4 x155.1.length 0 x155.1.length), (18, .d (.bool x156.1)), (20, .row 5 x157.1.length 0 x157.1.length), (22, .d (.int .i64 v207)), (25, .d (.int .i64 v304))] [.box [.d (.cx .f32 x126.Feeder.Source.A.re x126.Feeder.Source.A.im), .d (.cx .f32 x126.Feeder.Source.B.re x126.Feeder.Source.B.im), .d (.cx .f32 x126.Feeder.Source.C.re x126.Feeder.Source.C.im), .d (.sl false (x126.Feeder.Buses.map eSBus)), .d (.sl false (x126.Ties.map eSTie))], .row 1 (v151.map eInti64), .row 1 (x152.1.map eInti64), .row 1 (x154.1.map eInti64), .row 1 (x155.1.map eInti64), .row 1 (x157.1.map eInti64)] f3.ntmps 0) (fun (m314, v304) => m_laws_FnLit_l9 n x126 x130 v151 x152 x154 x155 x156 x157 v207 m314 v304 = some r) (fun x => x.1) (n, (0 : Int)) h (weak_ofP [0, 1, 2, 3, 4, 5] (l := [(5, .ptr 0 0), (6, .d (.int .i64 (x126.Feeder.Buses.length : Int))), (7, .d (.int .i64 (w64 ((1 : Int) + x130)))), (8, .row 1 v151.length 0 v151.length), (10, .row 2 x152.1.length 0 x152.1.length), (14, .row 3 x154.1.length 0 x154.1.length), (16, .row 4 x155.1.length 0 x155.1.length), (18, .d (.bool x156.1)), (20, .row 5 x157.1.length 0 x157.1.length), (22, .d (.int .i64 v207)), (25, .d (.int .i64 (0 : Int)))]) (objs := [.box [.d (.cx .f32 x126.Feeder.Source.A.re x126.Feeder.Source.A.im), .d (.cx .f32 x126.Feeder.Source.B.re x126.Feeder.Source.B.im), .d (.cx .f32 x126.Feeder.Source.C.re x126.Feeder.Source.C.im), .d (.sl false (x126.Feeder.Buses.map eSBus)), .d (.sl false (x126.Ties.map eSTie))], .row 1 (v151.map eInti64), .row 1 (x152.1.map eInti64), .row 1 (x154.1.map eInti64), .row 1 (x155.1.map eInti64), .row 1 (x157.1.map eInti64)]) rfl (by simp) rfl (by repeat' first | exact trivial | refine ⟨?_, ?_⟩) ⟨rfl, trivial, rfl, trivial, rfl, trivial, rfl, trivial, rfl, trivial, rfl, trivial, rfl, trivial, rfl, trivial, rfl, trivial, rfl, trivial, rfl, trivial, trivial⟩) ?_
              rintro ⟨m314, v304⟩ h
              replace h : m_laws_FnLit_l9 n x126 x130 v151 x152 x154 x155 x156 x157 v207 m314 v304 = some r := h
              rcases m314 with _ | m314
              · rw [m_laws_FnLit_l9] at h; cases h
              rw [m_laws_FnLit_l9] at h
              refine aw_seq ?_
              refine aw_seq ?_
              refine aw_region ?_
              refine awl_val hτ rfl rfl rfl ?_
              refine awl_val hτ rfl rfl rfl ?_
              refine awl_val hτ rfl rfl rfl ?_
              refine awl_nil ?_
              refine aw_cond rfl (fun hc316 => ?_) (fun hc316 => ?_)
              · have h := if_t h hc316
                refine aw_skip ?_
                refine aw_hk1 (ι := Unit) (fun _ => St.of [(5, .ptr 0 0), (6, .d (.int .i64 (x126.Feeder.Buses.length : Int))), (7, .d (.int .i64 (w64 ((1 : Int) + x130)))), (8, .row 1 v151.length 0 v151.length), (10, .row 2 x152.1.length 0 x152.1.length), (14, .row 3 x154.1.length 0 x154.1.length), (16, .row 4 x155.1.length 0 x155.1.length), (18, .d (.bool x156.1)), (20, .row 5 x157.1.length 0 x157.1.length), (22, .d (.int .i64 v207)), (25, .d (.int .i64 v304))] [.box [.d (.cx .f32 x126.Feeder.Source.A.re x126.Feeder.Source.A.im), .d (.cx .f32 x126.Feeder.Source.B.re x126.Feeder.Source.B.im), .d (.cx .f32 x126.Feeder.Source.C.re x126.Feeder.Source.C.im), .d (.sl false (x126.Feeder.Buses.map eSBus)), .d (.sl false (x126.Ties.map eSTie))], .row 1 (v151.map eInti64), .row 1 (x152.1.map eInti64), .row 1 (x154.1.map eInti64), .row 1 (x155.1.map eInti64), .row 1 (x157.1.map eInti64)] f3.ntmps 0) (fun _ => m_laws_FnLit_j10 n (m_laws_FnLit_l9 n x126 x130 v151 x152 x154 x155 x156 x157 v207 m314) v304 = some r) ?_ (fun hk325 => ?_)
                · rintro ⟨⟩ h
                  replace h : m_laws_FnLit_j10 n (m_laws_FnLit_l9 n x126 x130 v151 x152 x154 x155 x156 x157 v207 m314) v304 = some r := h
                  unfold m_laws_FnLit_j10 at h
                  refine aw_region ?_
                  refine awl_val hτ rfl rfl rfl ?_
                  refine awl_val hτ rfl rfl rfl ?_
                  refine awl_val hτ rfl rfl rfl ?_
                  refine awl_nil ?_
                  exact ⟨(m314, (w64 (v304 + (1 : Int)))), h, Nat.lt_succ_self m314, (weak_ofP [0, 1, 2, 3, 4, 5] (l := [(5, .ptr 0 0), (6, .d (.int .i64 (x126.Feeder.Buses.length : Int))), (7, .d (.int .i64 (w64 ((1 : Int) + x130)))), (8, .row 1 v151.length 0 v151.length), (10, .row 2 x152.1.length 0 x152.1.length), (14, .row 3 x154.1.length 0 x154.1.length), (16, .row 4 x155.1.length 0 x155.1.length), (18, .d (.bool x156.1)), (20, .row 5 x157.1.length 0 x157.1.length), (22, .d (.int .i64 v207)), (25, .d (.int .i64 (w64 (v304 + (1 : Int)))))]) (objs := [.box [.d (.cx .f32 x126.Feeder.Source.A.re x126.Feeder.Source.A.im), .d (.cx .f32 x126.Feeder.Source.B.re x126.Feeder.Source.B.im), .d (.cx .f32 x126.Feeder.Source.C.re x126.Feeder.Source.C.im), .d (.sl false (x126.Feeder.Buses.map eSBus)), .d (.sl false (x126.Ties.map eSTie))], .row 1 (v151.map eInti64), .row 1 (x152.1.map eInti64), .row 1 (x154.1.map eInti64), .row 1 (x155.1.map eInti64), .row 1 (x157.1.map eInti64)]) rfl (by simp) rfl (by repeat' first | exact trivial | refine ⟨?_, ?_⟩) ⟨rfl, trivial, rfl, trivial, rfl, trivial, rfl, trivial, rfl, trivial, rfl, trivial, rfl, trivial, rfl, trivial, rfl, trivial, rfl, trivial, rfl, trivial, trivial⟩)⟩
                · refine aw_seq ?_
                  refine aw_block ?_
                  refine aw_hk1 (ι := Bool) (fun v334 => St.of [(5, .ptr 0 0), (6, .d (.int .i64 (x126.Feeder.Buses.length : Int))), (7, .d (.int .i64 (w64 ((1 : Int) + x130)))), (8, .row 1 v151.length 0 v151.length), (10, .row 2 x152.1.length 0 x152.1.length), (14, .row 3 x154.1.length 0 x154.1.length), (16, .row 4 x155.1.length 0 x155.1.length), (18, .d (.bool x156.1)), (20, .row 5 x157.1.length 0 x157.1.length), (22, .d (.int .i64 v207)), (25, .d (.int .i64 v304)), (238, .d (.bool v334))] [.box [.d (.cx .f32 x126.Feeder.Source.A.re x126.Feeder.Source.A.im), .d (.cx .f32 x126.Feeder.Source.B.re x126.Feeder.Source.B.im), .d (.cx .f32 x126.Feeder.Source.C.re x126.Feeder.Source.C.im), .d (.sl false (x126.Feeder.Buses.map eSBus)), .d (.sl false (x126.Ties.map eSTie))], .row 1 (v151.map eInti64), .row 1 (x152.1.map eInti64), .row 1 (x154.1.map eInti64), .row 1 (x155.1.map eInti64), .row 1 (x157.1.map eInti64)] f3.ntmps 0) (fun v334 => m_laws_FnLit_j11 n (m_laws_FnLit_l9 n x126 x130 v151 x152 x154 x155 x156 x157 v207 m314) v304 v334 = some r) ?_ (fun hk336 => ?_)
                  · rintro v334 h
                    replace h : m_laws_FnLit_j11 n (m_laws_FnLit_l9 n x126 x130 v151 x152 x154 x155 x156 x157 v207 m314) v304 v334 = some r := h
                    unfold m_laws_FnLit_j11 at h
                    refine aw_cond rfl (fun hc335 => ?_) (fun hc335 => ?_)
                    · have h := if_bt h hc335
                      refine aw_seq ?_
                      refine aw_region ?_
                      refine awl_val hτ rfl rfl rfl ?_
                      refine awl_nil ?_
                      refine aw_weak (weak_ofP [] (l := [(4, .d (.bool false))]) (objs := []) rfl (by simp) rfl (by repeat' first | exact trivial | refine ⟨?_, ?_⟩) ⟨rfl, trivial, trivial⟩) ?_
                      refine aw_ret ?_
                      have hr := Option.some.inj h
                      subst hr
                      exact ret_objs (.inr rfl) [] (objs' := []) (new := []) rfl (by simp) (by simp) rfl (by repeat' first | exact trivial | refine ⟨?_, ?_⟩) rfl rfl (by repeat' first | exact trivial | refine ⟨?_, ?_⟩) (fun _ => ⟨by simp [V.flat, V.flatA, V.flatC, D.flat], flat_nil⟩) ⟨rfl, rfl, rfl⟩
                    · have h := if_bf h hc335
                      refine aw_skip ?_
                      refine aw_weak (weak_ofP [0, 1, 2, 3, 4, 5] (l := [(5, .ptr 0 0), (6, .d (.int .i64 (x126.Feeder.Buses.length : Int))), (7, .d (.int .i64 (w64 ((1 : Int) + x130)))), (8, .row 1 v151.length 0 v151.length), (10, .row 2 x152.1.length 0 x152.1.length), (14, .row 3 x154.1.length 0 x154.1.length), (16, .row 4 x155.1.length 0 x155.1.length), (18, .d (.bool x156.1)), (20, .row 5 x157.1.length 0 x157.1.length), (22, .d (.int .i64 v207)), (25, .d (.int .i64 v304))]) (objs := [.box [.d (.cx .f32 x126.Feeder.Source.A.re x126.Feeder.Source.A.im), .d (.cx .f32 x126.Feeder.Source.B.re x126.Feeder.Source.B.im), .d (.cx .f32 x126.Feeder.Source.C.re x126.Feeder.Source.C.im), .d (.sl false (x126.Feeder.Buses.map eSBus)), .d (.sl false (x126.Ties.map eSTie))], .row 1 (v151.map eInti64), .row 1 (x152.1.map eInti64), .row 1 (x154.1.map eInti64), .row 1 (x155.1.map eInti64), .row 1 (x157.1.map eInti64)]) rfl (by simp) rfl (by repeat' first | exact trivial | refine ⟨?_, ?_⟩) ⟨rfl, trivial, rfl, trivial, rfl, trivial, rfl, trivial, rfl, trivial, rfl, trivial, rfl, trivial, rfl, trivial, rfl, trivial, rfl, trivial, rfl, trivial, trivial⟩) ?_
                      exact hk325 () h
                  · refine aw_seq ?_
                    refine aw_region ?_
                    refine awl_val hτ rfl rfl rfl ?_
                    refine awl_val hτ rfl rfl rfl ?_
                    refine awl_weak (weak_ofP [0, 1, 2, 3, 4, 5] (l := [(5, .ptr 0 0), (6, .d (.int .i64 (x126.Feeder.Buses.length : Int))), (7, .d (.int .i64 (w64 ((1 : Int) + x130)))), (8, .row 1 v151.length 0 v151.length), (10, .row 2 x152.1.length 0 x152.1.length), (14, .row 3 x154.1.length 0 x154.1.length), (16, .row 4 x155.1.length 0 x155.1.length), (18, .d (.bool x156.1)), (20, .row 5 x157.1.length 0 x157.1.length), (22, .d (.int .i64 v207)), (25, .d (.int .i64 v304)), (221, .row 4 x155.1.length 0 x155.1.length), (222, .d (.int .i64 v304))]) (objs := [.box [.d (.cx .f32 x126.Feeder.Source.A.re x126.Feeder.Source.A.im), .d (.cx .f32 x126.Feeder.Source.B.re x126.Feeder.Source.B.im), .d (.cx .f32 x126.Feeder.Source.C.re x126.Feeder.Source.C.im), .d (.sl false (x126.Feeder.Buses.map eSBus)), .d (.sl false (x126.Ties.map eSTie))], .row 1 (v151.map eInti64), .row 1 (x152.1.map eInti64), .row 1 (x154.1.map eInti64), .row 1 (x155.1.map eInti64), .row 1 (x157.1.map eInti64)]) rfl (by simp) rfl (by repeat' first | exact trivial | refine ⟨?_, ?_⟩) ⟨rfl, trivial, rfl, trivial, rfl, trivial, rfl, trivial, rfl, trivial, rfl, trivial, rfl, trivial, rfl, trivial, rfl, trivial, rfl, trivial, rfl, trivial, rfl, trivial, rfl, trivial, trivial⟩) ?_
                    refine bnd_elim h fun x337 hx337 h => ?_
                    refine awl_callP hτ true [] rfl rfl rfl (enterOk func16 rfl rfl) (mapO_cons (exV_view (f := eInti64) x155.1 rfl rfl rfl) (mapO_cons rfl mapO_nil)) rfl (by simp) ⟨(exVP_view (f := eInti64) x155.1 rfl rfl rfl), trivial, trivial⟩ (by repeat' first | exact trivial | refine ⟨?_, ?_⟩) (laws_r8In_ok_fr n x155.1 v304 hx337) ?_
                    rintro r0 o0 n0 ⟨rfl, rfl, rfl⟩ -
                    refine awl_val hτ rfl rfl rfl ?_
                    refine awl_val hτ rfl rfl rfl ?_
                    refine awl_weak (weak_ofP [0, 1, 2, 3, 4, 5] (l := [(5, .ptr 0 0), (6, .d (.int .i64 (x126.Feeder.Buses.length : Int))), (7, .d (.int .i64 (w64 ((1 : Int) + x130)))), (8, .row 1 v151.length 0 v151.length), (10, .row 2 x152.1.length 0 x152.1.length), (14, .row 3 x154.1.length 0 x154.1.length), (16, .row 4 x155.1.length 0 x155.1.length), (18, .d (.bool x156.1)), (20, .row 5 x157.1.length 0 x157.1.length), (22, .d (.int .i64 v207)), (25, .d (.int .i64 v304)), (223, .d (.bool x337)), (224, .row 2 x152.1.length 0 x152.1.length), (225, .d (.int .i64 v304))]) (objs := [.box [.d (.cx .f32 x126.Feeder.Source.A.re x126.Feeder.Source.A.im), .d (.cx .f32 x126.Feeder.Source.B.re x126.Feeder.Source.B.im), .d (.cx .f32 x126.Feeder.Source.C.re x126.Feeder.Source.C.im), .d (.sl false (x126.Feeder.Buses.map eSBus)), .d (.sl false (x126.Ties.map eSTie))], .row 1 (v151.map eInti64), .row 1 (x152.1.map eInti64), .row 1 (x154.1.map eInti64), .row 1 (x155.1.map eInti64), .row 1 (x157.1.map eInti64)]) rfl (by simp) rfl (by repeat' first | exact trivial | refine ⟨?_, ?_⟩) ⟨rfl, trivial, rfl, trivial, rfl, trivial, rfl, trivial, rfl, trivial, rfl, trivial, rfl, trivial, rfl, trivial, rfl, trivial, rfl, trivial, rfl, trivial, rfl, trivial, rfl, trivial, rfl, trivial, trivial⟩) ?_
                    refine bnd_elim h fun x338 hx338 h => ?_
                    refine awl_callP hτ true [] rfl rfl rfl (enterOk func16 rfl rfl) (mapO_cons (exV_view (f := eInti64) x152.1 rfl rfl rfl) (mapO_cons rfl mapO_nil)) rfl (by simp) ⟨(exVP_view (f := eInti64) x152.1 rfl rfl rfl), trivial, trivial⟩ (by repeat' first | exact trivial | refine ⟨?_, ?_⟩) (laws_r8In_ok_fr n x152.1 v304 hx338) ?_
                    rintro r0 o0 n0 ⟨rfl, rfl, rfl⟩ -
                    refine awl_val hτ rfl rfl rfl ?_
                    refine awl_val hτ rfl rfl rfl ?_
                    refine awl_split 228 rfl (fun hb339 => ?_) (fun hb339 => ?_)
                    · have h := if_bt h hb339
                      refine awl_skip rfl rfl ?_
                      refine awl_skip rfl rfl ?_
                      refine awl_skip rfl rfl ?_
                      refine awl_skip rfl rfl ?_
                      refine awl_skip rfl rfl ?_
                      refine awl_skip rfl rfl ?_
                      refine awl_skip rfl rfl ?_
                      refine awl_skip rfl rfl ?_
                      refine awl_skip rfl rfl ?_
                      refine awl_weak (weak_ofP [0, 1, 2, 3, 4, 5] (l := [(5, .ptr 0 0), (6, .d (.int .i64 (x126.Feeder.Buses.length : Int))), (7, .d (.int .i64 (w64 ((1 : Int) + x130)))), (8, .row 1 v151.length 0 v151.length), (10, .row 2 x152.1.length 0 x152.1.length), (14, .row 3 x154.1.length 0 x154.1.length), (16, .row 4 x155.1.length 0 x155.1.length), (18, .d (.bool x156.1)), (20, .row 5 x157.1.length 0 x157.1.length), (22, .d (.int .i64 v207)), (25, .d (.int .i64 v304)), (228, .d (.bool true)), (237, .und)]) (objs := [.box [.d (.cx .f32 x126.Feeder.Source.A.re x126.Feeder.Source.A.im), .d (.cx .f32 x126.Feeder.Source.B.re x126.Feeder.Source.B.im), .d (.cx .f32 x126.Feeder.Source.C.re x126.Feeder.Source.C.im), .d (.sl false (x126.Feeder.Buses.map eSBus)), .d (.sl false (x126.Ties.map eSTie))], .row 1 (v151.map eInti64), .row 1 (x152.1.map eInti64), .row 1 (x154.1.map eInti64), .row 1 (x155.1.map eInti64), .row 1 (x157.1.map eInti64)]) rfl (by simp) rfl (by repeat' first | exact trivial | refine ⟨?_, ?_⟩) ⟨rfl, trivial, rfl, trivial, rfl, trivial, rfl, trivial, rfl, trivial, rfl, trivial, rfl, trivial, rfl, trivial, rfl, trivial, rfl, trivial, rfl, trivial, rfl, trivial, rfl, trivial, trivial⟩) ?_
                      refine awl_val hτ rfl rfl rfl ?_
                      refine awl_nil ?_
                      refine aw_weak (weak_ofP [0, 1, 2, 3, 4, 5] (l := [(5, .ptr 0 0), (6, .d (.int .i64 (x126.Feeder.Buses.length : Int))), (7, .d (.int .i64 (w64 ((1 : Int) + x130)))), (8, .row 1 v151.length 0 v151.length), (10, .row 2 x152.1.length 0 x152.1.length), (14, .row 3 x154.1.length 0 x154.1.length), (16, .row 4 x155.1.length 0 x155.1.length), (18, .d (.bool x156.1)), (20, .row 5 x157.1.length 0 x157.1.length), (22, .d (.int .i64 v207)), (25, .d (.int .i64 v304)), (238, .d (.bool true))]) (objs := [.box [.d (.cx .f32 x126.Feeder.Source.A.re x126.Feeder.Source.A.im), .d (.cx .f32 x126.Feeder.Source.B.re x126.Feeder.Source.B.im), .d (.cx .f32 x126.Feeder.Source.C.re x126.Feeder.Source.C.im), .d (.sl false (x126.Feeder.Buses.map eSBus)), .d (.sl false (x126.Ties.map eSTie))], .row 1 (v151.map eInti64), .row 1 (x152.1.map eInti64), .row 1 (x154.1.map eInti64), .row 1 (x155.1.map eInti64), .row 1 (x157.1.map eInti64)]) rfl (by simp) rfl (by repeat' first | exact trivial | refine ⟨?_, ?_⟩) ⟨rfl, trivial, rfl, trivial, rfl, trivial, rfl, trivial, rfl, trivial, rfl, trivial, rfl, trivial, rfl, trivial, rfl, trivial, rfl, trivial, rfl, trivial, rfl, trivial, trivial⟩) ?_
                      exact hk336 true h
                    · have h := if_bf h hb339
                      refine awl_val hτ rfl rfl rfl ?_
                      refine awl_val hτ rfl rfl rfl ?_
                      refine awl_weak (weak_ofP [0, 1, 2, 3, 4, 5] (l := [(5, .ptr 0 0), (6, .d (.int .i64 (x126.Feeder.Buses.length : Int))), (7, .d (.int .i64 (w64 ((1 : Int) + x130)))), (8, .row 1 v151.length 0 v151.length), (10, .row 2 x152.1.length 0 x152.1.length), (14, .row 3 x154.1.length 0 x154.1.length), (16, .row 4 x155.1.length 0 x155.1.length), (18, .d (.bool x156.1)), (20, .row 5 x157.1.length 0 x157.1.length), (22, .d (.int .i64 v207)), (25, .d (.int .i64 v304)), (228, .d (.bool false)), (229, .row 4 x155.1.length 0 x155.1.length), (230, .d (.int .i64 v304))]) (objs := [.box [.d (.cx .f32 x126.Feeder.Source.A.re x126.Feeder.Source.A.im), .d (.cx .f32 x126.Feeder.Source.B.re x126.Feeder.Source.B.im), .d (.cx .f32 x126.Feeder.Source.C.re x126.Feeder.Source.C.im), .d (.sl false (x126.Feeder.Buses.map eSBus)), .d (.sl false (x126.Ties.map eSTie))], .row 1 (v151.map eInti64), .row 1 (x152.1.map eInti64), .row 1 (x154.1.map eInti64), .row 1 (x155.1.map eInti64), .row 1 (x157.1.map eInti64)]) rfl (by simp) rfl (by repeat' first | exact trivial | refine ⟨?_, ?_⟩) ⟨rfl, trivial, rfl, trivial, rfl, trivial, rfl, trivial, rfl, trivial, rfl, trivial, rfl, trivial, rfl, trivial, rfl, trivial, rfl, trivial, rfl, trivial, rfl, trivial, rfl, trivial, rfl, trivial, trivial⟩) ?_
                      refine bnd_elim h fun x340 hx340 h => ?_
                      refine awl_callP hτ true [] rfl rfl rfl (enterOk func16 rfl rfl) (mapO_cons (exV_view (f := eInti64) x155.1 rfl rfl rfl) (mapO_cons rfl mapO_nil)) rfl (by simp) ⟨(exVP_view (f := eInti64) x155.1 rfl rfl rfl), trivial, trivial⟩ (by repeat' first | exact trivial | refine ⟨?_, ?_⟩) (laws_r8In_ok_fr n x155.1 v304 hx340) ?_
                      rintro r0 o0 n0 ⟨rfl, rfl, rfl⟩ -
                      refine awl_val hτ rfl rfl rfl ?_
                      refine awl_split 232 rfl (fun hb341 => ?_) (fun hb341 => ?_)
                      · have h := if_bt h hb341
                        refine awl_val hτ rfl rfl rfl ?_
                        refine awl_val hτ rfl rfl rfl ?_
                        refine awl_weak (weak_ofP [0, 1, 2, 3, 4, 5] (l := [(5, .ptr 0 0), (6, .d (.int .i64 (x126.Feeder.Buses.length : Int))), (7, .d (.int .i64 (w64 ((1 : Int) + x130)))), (8, .row 1 v151.length 0 v151.length), (10, .row 2 x152.1.length 0 x152.1.length), (14, .row 3 x154.1.length 0 x154.1.length), (16, .row 4 x155.1.length 0 x155.1.length), (18, .d (.bool x156.1)), (20, .row 5 x157.1.length 0 x157.1.length), (22, .d (.int .i64 v207)), (25, .d (.int .i64 v304)), (228, .d (.bool false)), (232, .d (.bool true)), (233, .row 3 x154.1.length 0 x154.1.length), (234, .d (.int .i64 v304))]) (objs := [.box [.d (.cx .f32 x126.Feeder.Source.A.re x126.Feeder.Source.A.im), .d (.cx .f32 x126.Feeder.Source.B.re x126.Feeder.Source.B.im), .d (.cx .f32 x126.Feeder.Source.C.re x126.Feeder.Source.C.im), .d (.sl false (x126.Feeder.Buses.map eSBus)), .d (.sl false (x126.Ties.map eSTie))], .row 1 (v151.map eInti64), .row 1 (x152.1.map eInti64), .row 1 (x154.1.map eInti64), .row 1 (x155.1.map eInti64), .row 1 (x157.1.map eInti64)]) rfl (by simp) rfl (by repeat' first | exact trivial | refine ⟨?_, ?_⟩) ⟨rfl, trivial, rfl, trivial, rfl, trivial, rfl, trivial, rfl, trivial, rfl, trivial, rfl, trivial, rfl, trivial, rfl, trivial, rfl, trivial, rfl, trivial, rfl, trivial, rfl, trivial, rfl, trivial, rfl, trivial, trivial⟩) ?_
                        refine bnd_elim h fun x342 hx342 h => ?_
                        refine awl_callP hτ true [] rfl rfl rfl (enterOk func16 rfl rfl) (mapO_cons (exV_view (f := eInti64) x154.1 rfl rfl rfl) (mapO_cons rfl mapO_nil)) rfl (by simp) ⟨(exVP_view (f := eInti64) x154.1 rfl rfl rfl), trivial, trivial⟩ (by repeat' first | exact trivial | refine ⟨?_, ?_⟩) (laws_r8In_ok_fr n x154.1 v304 hx342) ?_
                        rintro r0 o0 n0 ⟨rfl, rfl, rfl⟩ -
                        refine awl_val hτ rfl rfl rfl ?_
                        refine awl_val hτ rfl rfl rfl ?_
                        refine awl_val hτ rfl rfl rfl ?_
                        refine awl_nil ?_
                        refine aw_weak (weak_ofP [0, 1, 2, 3, 4, 5] (l := [(5, .ptr 0 0), (6, .d (.int .i64 (x126.Feeder.Buses.length : Int))), (7, .d (.int .i64 (w64 ((1 : Int) + x130)))), (8, .row 1 v151.length 0 v151.length), (10, .row 2 x152.1.length 0 x152.1.length), (14, .row 3 x154.1.length 0 x154.1.length), (16, .row 4 x155.1.length 0 x155.1.length), (18, .d (.bool x156.1)), (20, .row 5 x157.1.length 0 x157.1.length), (22, .d (.int .i64 v207)), (25, .d (.int .i64 v304)), (238, .d (.bool (!x342)))]) (objs := [.box [.d (.cx .f32 x126.Feeder.Source.A.re x126.Feeder.Source.A.im), .d (.cx .f32 x126.Feeder.Source.B.re x126.Feeder.Source.B.im), .d (.cx .f32 x126.Feeder.Source.C.re x126.Feeder.Source.C.im), .d (.sl false (x126.Feeder.Buses.map eSBus)), .d (.sl false (x126.Ties.map eSTie))], .row 1 (v151.map eInti64), .row 1 (x152.1.map eInti64), .row 1 (x154.1.map eInti64), .row 1 (x155.1.map eInti64), .row 1 (x157.1.map eInti64)]) rfl (by simp) rfl (by repeat' first | exact trivial | refine ⟨?_, ?_⟩) ⟨rfl, trivial, rfl, trivial, rfl, trivial, rfl, trivial, rfl, trivial, rfl, trivial, rfl, trivial, rfl, trivial, rfl, trivial, rfl, trivial, rfl, trivial, rfl, trivial, trivial⟩) ?_
                        exact hk336 (!x342) h
                      · have h := if_bf h hb341
                        refine awl_skip rfl rfl ?_
                        refine awl_skip rfl rfl ?_
                        refine awl_skip rfl rfl ?_
                        refine awl_skip rfl rfl ?_
                        refine awl_val hτ rfl rfl rfl ?_
                        refine awl_val hτ rfl rfl rfl ?_
                        refine awl_nil ?_
                        refine aw_weak (weak_ofP [0, 1, 2, 3, 4, 5] (l := [(5, .ptr 0 0), (6, .d (.int .i64 (x126.Feeder.Buses.length : Int))), (7, .d (.int .i64 (w64 ((1 : Int) + x130)))), (8, .row 1 v151.length 0 v151.length), (10, .row 2 x152.1.length 0 x152.1.length), (14, .row 3 x154.1.length 0 x154.1.length), (16, .row 4 x155.1.length 0 x155.1.length), (18, .d (.bool x156.1)), (20, .row 5 x157.1.length 0 x157.1.length), (22, .d (.int .i64 v207)), (25, .d (.int .i64 v304)), (238, .d (.bool false))]) (objs := [.box [.d (.cx .f32 x126.Feeder.Source.A.re x126.Feeder.Source.A.im), .d (.cx .f32 x126.Feeder.Source.B.re x126.Feeder.Source.B.im), .d (.cx .f32 x126.Feeder.Source.C.re x126.Feeder.Source.C.im), .d (.sl false (x126.Feeder.Buses.map eSBus)), .d (.sl false (x126.Ties.map eSTie))], .row 1 (v151.map eInti64), .row 1 (x152.1.map eInti64), .row 1 (x154.1.map eInti64), .row 1 (x155.1.map eInti64), .row 1 (x157.1.map eInti64)]) rfl (by simp) rfl (by repeat' first | exact trivial | refine ⟨?_, ?_⟩) ⟨rfl, trivial, rfl, trivial, rfl, trivial, rfl, trivial, rfl, trivial, rfl, trivial, rfl, trivial, rfl, trivial, rfl, trivial, rfl, trivial, rfl, trivial, rfl, trivial, trivial⟩) ?_
                        exact hk336 false h
              · have h := if_f h hc316
                refine aw_exit ?_
                refine aw_weak (weak_ofP [0, 1, 2, 5] (l := [(5, .ptr 0 0), (7, .d (.int .i64 (w64 ((1 : Int) + x130)))), (8, .row 1 v151.length 0 v151.length), (10, .row 2 x152.1.length 0 x152.1.length), (18, .d (.bool x156.1)), (20, .row 3 x157.1.length 0 x157.1.length), (22, .d (.int .i64 v207))]) (objs := [.box [.d (.cx .f32 x126.Feeder.Source.A.re x126.Feeder.Source.A.im), .d (.cx .f32 x126.Feeder.Source.B.re x126.Feeder.Source.B.im), .d (.cx .f32 x126.Feeder.Source.C.re x126.Feeder.Source.C.im), .d (.sl false (x126.Feeder.Buses.map eSBus)), .d (.sl false (x126.Ties.map eSTie))], .row 1 (v151.map eInti64), .row 1 (x152.1.map eInti64), .row 1 (x157.1.map eInti64)]) rfl (by simp) rfl (by repeat' first | exact trivial | refine ⟨?_, ?_⟩) ⟨rfl, trivial, rfl, trivial, rfl, trivial, rfl, trivial, rfl, trivial, rfl, trivial, rfl, trivial, trivial⟩) ?_
                exact hk295 () h
          · refine aw_seq ?_
            refine aw_seq ?_
            refine aw_region ?_
            refine awl_val hτ rfl rfl rfl ?_
            refine awl_nil ?_
            refine aw_block ?_
            refine aw_loop (ι := Nat × Int × Int) (fun (m384, v362, v363) => St.of [(5, .ptr 0 0), (6, .d (.int .i64 (x126.Feeder.Buses.length : Int))), (7, .d (.int .i64 (w64 ((1 : Int) + x130)))), (8, .row 1 v151.length 0 v151.length), (10, .row 2 x152.1.length 0 x152.1.length), (12, .row 3 x153.1.length 0 x153.1.length), (14, .row 4 x154.1.length 0 x154.1.length), (16, .row 5 x155.1.length 0 x155.1.length), (18, .d (.bool x156.1)), (20, .row 6 x157.1.length 0 x157.1.length), (22, .d (.int .i64 v362)), (23, .d (.int .i64 v363))] [.box [.d (.cx .f32 x126.Feeder.Source.A.re x126.Feeder.Source.A.im), .d (.cx .f32 x126.Feeder.Source.B.re x126.Feeder.Source.B.im), .d (.cx .f32 x126.Feeder.Source.C.re x126.Feeder.Source.C.im), .d (.sl false (x126.Feeder.Buses.map eSBus)), .d (.sl false (x126.Ties.map eSTie))], .row 1 (v151.map eInti64), .row 1 (x152.1.map eInti64), .row 1 (x153.1.map eLInt), .row 1 (x154.1.map eInti64), .row 1 (x155.1.map eInti64), .row 1 (x157.1.map eInti64)] f3.ntmps 0) (fun (m384, v362, v363) => m_laws_FnLit_l12 n x126 x130 v151 x152 x153 x154 x155 x156 x157 m384 v362 v363 = some r) (fun x => x.1) (n, (1 : Int), (0 : Int)) h (weak_ofP [0, 1, 2, 3, 4, 5, 6] (l := [(5, .ptr 0 0), (6, .d (.int .i64 (x126.Feeder.Buses.length : Int))), (7, .d (.int .i64 (w64 ((1 : Int) + x130)))), (8, .row 1 v151.length 0 v151.length), (10, .row 2 x152.1.length 0 x152.1.length), (12, .row 3 x153.1.length 0 x153.1.length), (14, .row 4 x154.1.length 0 x154.1.length), (16, .row 5 x155.1.length 0 x155.1.length), (18, .d (.bool x156.1)), (20, .row 6 x157.1.length 0 x157.1.length), (22, .d (.int .i64 (1 : Int))), (23, .d (.int .i64 (0 : Int)))]) (objs := [.box [.d (.cx .f32 x126.Feeder.Source.A.re x126.Feeder.Source.A.im), .d (.cx .f32 x126.Feeder.Source.B.re x126.Feeder.Source.B.im), .d (.cx .f32 x126.Feeder.Source.C.re x126.Feeder.Source.C.im), .d (.sl false (x126.Feeder.Buses.map eSBus)), .d (.sl false (x126.Ties.map eSTie))], .row 1 (v151.map eInti64), .row 1 (x152.1.map eInti64), .row 1 (x153.1.map eLInt), .row 1 (x154.1.map eInti64), .row 1 (x155.1.map eInti64), .row 1 (x157.1.map eInti64)]) rfl (by simp) rfl (by repeat' first | exact trivial | refine ⟨?_, ?_⟩) ⟨rfl, trivial, rfl, trivial, rfl, trivial, rfl, trivial, rfl, trivial, rfl, trivial, rfl, trivial, rfl, trivial, rfl, trivial, rfl, trivial, rfl, trivial, rfl, trivial, trivial⟩) ?_
            rintro ⟨m384, v362, v363⟩ h
            replace h : m_laws_FnLit_l12 n x126 x130 v151 x152 x153 x154 x155 x156 x157 m384 v362 v363 = some r := h
            rcases m384 with _ | m384
            · rw [m_laws_FnLit_l12] at h; cases h
            rw [m_laws_FnLit_l12] at h
            refine aw_seq ?_
            refine aw_seq ?_
            refine aw_region ?_
            refine awl_val hτ rfl rfl rfl ?_
            refine awl_val hτ rfl rfl rfl ?_
            refine awl_need hτ rfl rfl rfl (len_map _) ?_
            refine awl_val hτ rfl rfl rfl ?_
            refine awl_nil ?_
            refine aw_cond rfl (fun hc386 => ?_) (fun hc386 => ?_)
            · have h := if_t h hc386
              refine aw_skip ?_
              refine aw_hk1 (ι := Int) (fun v405 => St.of [(5, .ptr 0 0), (6, .d (.int .i64 (x126.Feeder.Buses.length : Int))), (7, .d (.int .i64 (w64 ((1 : Int) + x130)))), (8, .row 1 v151.length 0 v151.length), (10, .row 2 x152.1.length 0 x152.1.length), (12, .row 3 x153.1.length 0 x153.1.length), (14, .row 4 x154.1.length 0 x154.1.length), (16, .row 5 x155.1.length 0 x155.1.length), (18, .d (.bool x156.1)), (20, .row 6 x157.1.length 0 x157.1.length), (22, .d (.int .i64 v405)), (23, .d (.int .i64 v363))] [.box [.d (.cx .f32 x126.Feeder.Source.A.re x126.Feeder.Source.A.im), .d (.cx .f32 x126.Feeder.Source.B.re x126.Feeder.Source.B.im), .d (.cx .f32 x126.Feeder.Source.C.re x126.Feeder.Source.C.im), .d (.sl false (x126.Feeder.Buses.map eSBus)), .d (.sl false (x126.Ties.map eSTie))], .row 1 (v151.map eInti64), .row 1 (x152.1.map eInti64), .row 1 (x153.1.map eLInt), .row 1 (x154.1.map eInti64), .row 1 (x155.1.map eInti64), .row 1 (x157.1.map eInti64)] f3.ntmps 0) (fun v405 => m_laws_FnLit_j13 n (m_laws_FnLit_l12 n x126 x130 v151 x152 x153 x154 x155 x156 x157 m384) v363 v405 = some r) ?_ (fun hk406 => ?_)
              · rintro v405 h
                replace h : m_laws_FnLit_j13 n (m_laws_FnLit_l12 n x126 x130 v151 x152 x153 x154 x155 x156 x157 m384) v363 v405 = some r := h
                unfold m_laws_FnLit_j13 at h
                refine aw_region ?_
                refine awl_val hτ rfl rfl rfl ?_
                refine awl_val hτ rfl rfl rfl ?_
                refine awl_val hτ rfl rfl rfl ?_
                refine awl_nil ?_
                exact ⟨(m384, v405, (w64 (v363 + (1 : Int)))), h, Nat.lt_succ_self m384, (weak_ofP [0, 1, 2, 3, 4, 5, 6] (l := [(5, .ptr 0 0), (6, .d (.int .i64 (x126.Feeder.Buses.length : Int))), (7, .d (.int .i64 (w64 ((1 : Int) + x130)))), (8, .row 1 v151.length 0 v151.length), (10, .row 2 x152.1.length 0 x152.1.length), (12, .row 3 x153.1.length 0 x153.1.length), (14, .row 4 x154.1.length 0 x154.1.length), (16, .row 5 x155.1.length 0 x155.1.length), (18, .d (.bool x156.1)), (20, .row 6 x157.1.length 0 x157.1.length), (22, .d (.int .i64 v405)), (23, .d (.int .i64 (w64 (v363 + (1 : Int)))))]) (objs := [.box [.d (.cx .f32 x126.Feeder.Source.A.re x126.Feeder.Source.A.im), .d (.cx .f32 x126.Feeder.Source.B.re x126.Feeder.Source.B.im), .d (.cx .f32 x126.Feeder.Source.C.re x126.Feeder.Source.C.im), .d (.sl false (x126.Feeder.Buses.map eSBus)), .d (.sl false (x126.Ties.map eSTie))], .row 1 (v151.map eInti64), .row 1 (x152.1.map eInti64), .row 1 (x153.1.map eLInt), .row 1 (x154.1.map eInti64), .row 1 (x155.1.map eInti64), .row 1 (x157.1.map eInti64)]) rfl (by simp) rfl (by repeat' first | exact trivial | refine ⟨?_, ?_⟩) ⟨rfl, trivial, rfl, trivial, rfl, trivial, rfl, trivial, rfl, trivial, rfl, trivial, rfl, trivial, rfl, trivial, rfl, trivial, rfl, trivial, rfl, trivial, rfl, trivial, trivial⟩)⟩
              · refine aw_seq ?_
                refine aw_block ?_
                refine aw_seq ?_
                refine aw_region ?_
                refine awl_val hτ rfl rfl rfl ?_
                refine awl_val hτ rfl rfl rfl ?_
                refine awl_val hτ rfl rfl rfl ?_
                refine bnd_elim h fun x407 hx407 h => ?_
                refine awl_need hτ rfl rfl rfl (row_need hx407) ?_
                refine awl_elem hτ rfl rfl rfl (len_map _) (row_get hx407) rfl ?_
                refine awl_val hτ (v := .d (.int .i64 (x407.length : Int))) rfl rfl (Eq.trans rfl (or_len (f := eInti64) x407)) ?_
                refine awl_val hτ rfl rfl rfl ?_
                refine awl_val hτ rfl rfl rfl ?_
                refine awl_nil ?_
                refine aw_seq ?_
                refine aw_weak (weak_ofP [0, 1, 2, 3, 4, 5, 6] (l := [(5, .ptr 0 0), (6, .d (.int .i64 (x126.Feeder.Buses.length : Int))), (7, .d (.int .i64 (w64 ((1 : Int) + x130)))), (8, .row 1 v151.length 0 v151.length), (10, .row 2 x152.1.length 0 x152.1.length), (12, .row 3 x153.1.length 0 x153.1.length), (14, .row 4 x154.1.length 0 x154.1.length), (16, .row 5 x155.1.length 0 x155.1.length), (18, .d (.bool x156.1)), (20, .row 6 x157.1.length 0 x157.1.length), (22, .d (.int .i64 (w64 (v362 + (x407.length : Int))))), (23, .d (.int .i64 v363))]) (objs := [.box [.d (.cx .f32 x126.Feeder.Source.A.re x126.Feeder.Source.A.im), .d (.cx .f32 x126.Feeder.Source.B.re x126.Feeder.Source.B.im), .d (.cx .f32 x126.Feeder.Source.C.re x126.Feeder.Source.C.im), .d (.sl false (x126.Feeder.Buses.map eSBus)), .d (.sl false (x126.Ties.map eSTie))], .row 1 (v151.map eInti64), .row 1 (x152.1.map eInti64), .row 1 (x153.1.map eLInt), .row 1 (x154.1.map eInti64), .row 1 (x155.1.map eInti64), .row 1 (x157.1.map eInti64)]) rfl (by simp) rfl (by repeat' first | exact trivial | refine ⟨?_, ?_⟩) ⟨rfl, trivial, rfl, trivial, rfl, trivial, rfl, trivial, rfl, trivial, rfl, trivial, rfl, trivial, rfl, trivial, rfl, trivial, rfl, trivial, rfl, trivial, rfl, trivial, trivial⟩) ?_
                refine aw_region ?_
                refine awl_val hτ rfl rfl rfl ?_
                refine awl_nil ?_
                refine aw_block ?_
                refine aw_loop (ι := Nat × Int) (fun (m425, v415) => St.of [(5, .ptr 0 0), (6, .d (.int .i64 (x126.Feeder.Buses.length : Int))), (7, .d (.int .i64 (w64 ((1 : Int) + x130)))), (8, .row 1 v151.length 0 v151.length), (10, .row 2 x152.1.length 0 x152.1.length), (12, .row 3 x153.1.length 0 x153.1.length), (14, .row 4 x154.1.length 0 x154.1.length), (16, .row 5 x155.1.length 0 x155.1.length), (18, .d (.bool x156.1)), (20, .row 6 x157.1.length 0 x157.1.length), (22, .d (.int .i64 (w64 (v362 + (x407.length : Int))))), (23, .d (.int .i64 v363)), (24, .d (.int .i64 v415))] [.box [.d (.cx .f32 x126.Feeder.Source.A.re x126.Feeder.Source.A.im), .d (.cx .f32 x126.Feeder.Source.B.re x126.Feeder.Source.B.im), .d (.cx .f32 x126.Feeder.Source.C.re x126.Feeder.Source.C.im), .d (.sl false (x126.Feeder.Buses.map eSBus)), .d (.sl false (x126.Ties.map eSTie))], .row 1 (v151.map eInti64), .row 1 (x152.1.map eInti64), .row 1 (x153.1.map eLInt), .row 1 (x154.1.map eInti64), .row 1 (x155.1.map eInti64), .row 1 (x157.1.map eInti64)] f3.ntmps 0) (fun (m425, v415) => m_laws_FnLit_l14 n x152 x153 x154 (m_laws_FnLit_l12 n x126 x130 v151 x152 x153 x154 x155 x156 x157 m384) v362 v363 x407 m425 v415 = some r) (fun x => x.1) (n, (0 : Int)) h (weak_ofP [0, 1, 2, 3, 4, 5, 6] (l := [(5, .ptr 0 0), (6, .d (.int .i64 (x126.Feeder.Buses.length : Int))), (7, .d (.int .i64 (w64 ((1 : Int) + x130)))), (8, .row 1 v151.length 0 v151.length), (10, .row 2 x152.1.length 0 x152.1.length), (12, .row 3 x153.1.length 0 x153.1.length), (14, .row 4 x154.1.length 0 x154.1.length), (16, .row 5 x155.1.length 0 x155.1.length), (18, .d (.bool x156.1)), (20, .row 6 x157.1.length 0 x157.1.length), (22, .d (.int .i64 (w64 (v362 + (x407.length : Int))))), (23, .d (.int .i64 v363)), (24, .d (.int .i64 (0 : Int)))]) (objs := [.box [.d (.cx .f32 x126.Feeder.Source.A.re x126.Feeder.Source.A.im), .d (.cx .f32 x126.Feeder.Source.B.re x126.Feeder.Source.B.im), .d (.cx .f32 x126.Feeder.Source.C.re x126.Feeder.Source.C.im), .d (.sl false (x126.Feeder.Buses.map eSBus)), .d (.sl false (x126.Ties.map eSTie))], .row 1 (v151.map eInti64), .row 1 (x152.1.map eInti64), .row 1 (x153.1.map eLInt), .row 1 (x154.1.map eInti64), .row 1 (x155.1.map eInti64), .row 1 (x157.1.map eInti64)]) rfl (by simp) rfl (by repeat' first | exact trivial | refine ⟨?_, ?_⟩) ⟨rfl, trivial, rfl, trivial, rfl, trivial, rfl, trivial, rfl, trivial, rfl, trivial, rfl, trivial, rfl, trivial, rfl, trivial, rfl, trivial, rfl, trivial, rfl, trivial, rfl, trivial, trivial⟩) ?_
                rintro ⟨m425, v415⟩ h
                replace h : m_laws_FnLit_l14 n x152 x153 x154 (m_laws_FnLit_l12 n x126 x130 v151 x152 x153 x154 x155 x156 x157 m384) v362 v363 x407 m425 v415 = some r := h
                rcases m425 with _ | m425
                · rw [m_laws_FnLit_l14] at h; cases h
                rw [m_laws_FnLit_l14] at h
                refine aw_seq ?_
                refine aw_seq ?_
                refine aw_region ?_
                refine awl_val hτ rfl rfl rfl ?_
                refine awl_val hτ rfl rfl rfl ?_
                refine awl_val hτ rfl rfl rfl ?_
                refine bnd_elim h fun x428 hx428 h => ?_
                refine awl_need hτ rfl rfl rfl (row_need hx428) ?_
                refine awl_elem hτ rfl rfl rfl (len_map _) (row_get hx428) rfl ?_
                refine awl_val hτ (v := .d (.int .i64 (x428.length : Int))) rfl rfl (Eq.trans rfl (or_len (f := eInti64) x428)) ?_
                refine awl_val hτ rfl rfl rfl ?_
                refine awl_nil ?_
                refine aw_weak (weak_ofP [0, 1, 2, 3, 4, 5, 6] (l := [(5, .ptr 0 0), (6, .d (.int .i64 (x126.Feeder.Buses.length : Int))), (7, .d (.int .i64 (w64 ((1 : Int) + x130)))), (8, .row 1 v151.length 0 v151.length), (10, .row 2 x152.1.length 0 x152.1.length), (12, .row 3 x153.1.length 0 x153.1.length), (14, .row 4 x154.1.length 0 x154.1.length), (16, .row 5 x155.1.length 0 x155.1.length), (18, .d (.bool x156.1)), (20, .row 6 x157.1.length 0 x157.1.length), (22, .d (.int .i64 (w64 (v362 + (x407.length : Int))))), (23, .d (.int .i64 v363)), (24, .d (.int .i64 v415)), (183, .d (.bool (decide (v415 < (x428.length : Int)))))]) (objs := [.box [.d (.cx .f32 x126.Feeder.Source.A.re x126.Feeder.Source.A.im), .d (.cx .f32 x126.Feeder.Source.B.re x126.Feeder.Source.B.im), .d (.cx .f32 x126.Feeder.Source.C.re x126.Feeder.Source.C.im), .d (.sl false (x126.Feeder.Buses.map eSBus)), .d (.sl false (x126.Ties.map eSTie))], .row 1 (v151.map eInti64), .row 1 (x152.1.map eInti64), .row 1 (x153.1.map eLInt), .row 1 (x154.1.map eInti64), .row 1 (x155.1.map eInti64), .row 1 (x157.1.map eInti64)]) rfl (by simp) rfl (by repeat' first | exact trivial | refine ⟨?_, ?_⟩) ⟨rfl, trivial, rfl, trivial, rfl, trivial, rfl, trivial, rfl, trivial, rfl, trivial, rfl, trivial, rfl, trivial, rfl, trivial, rfl, trivial, rfl, trivial, rfl, trivial, rfl, trivial, rfl, trivial, trivial⟩) ?_
                refine aw_cond rfl (fun hc429 => ?_) (fun hc429 => ?_)
                · have h := if_t h hc429
                  refine aw_skip ?_
                  refine aw_hk1 (ι := Unit) (fun _ => St.of [(5, .ptr 0 0), (6, .d (.int .i64 (x126.Feeder.Buses.length : Int))), (7, .d (.int .i64 (w64 ((1 : Int) + x130)))), (8, .row 1 v151.length 0 v151.length), (10, .row 2 x152.1.length 0 x152.1.length), (12, .row 3 x153.1.length 0 x153.1.length), (14, .row 4 x154.1.length 0 x154.1.length), (16, .row 5 x155.1.length 0 x155.1.length), (18, .d (.bool x156.1)), (20, .row 6 x157.1.length 0 x157.1.length), (22, .d (.int .i64 (w64 (v362 + (x407.length : Int))))), (23, .d (.int .i64 v363)), (24, .d (.int .i64 v415))] [.box [.d (.cx .f32 x126.Feeder.Source.A.re x126.Feeder.Source.A.im), .d (.cx .f32 x126.Feeder.Source.B.re x126.Feeder.Source.B.im), .d (.cx .f32 x126.Feeder.Source.C.re x126.Feeder.Source.C.im), .d (.sl false (x126.Feeder.Buses.map eSBus)), .d (.sl false (x126.Ties.map eSTie))], .row 1 (v151.map eInti64), .row 1 (x152.1.map eInti64), .row 1 (x153.1.map eLInt), .row 1 (x154.1.map eInti64), .row 1 (x155.1.map eInti64), .row 1 (x157.1.map eInti64)] f3.ntmps 0) (fun _ => m_laws_FnLit_j15 n (m_laws_FnLit_l14 n x152 x153 x154 (m_laws_FnLit_l12 n x126 x130 v151 x152 x153 x154 x155 x156 x157 m384) v362 v363 x407 m425) v415 = some r) ?_ (fun hk437 => ?_)
                  · rintro ⟨⟩ h
                    replace h : m_laws_FnLit_j15 n (m_laws_FnLit_l14 n x152 x153 x154 (m_laws_FnLit_l12 n x126 x130 v151 x152 x153 x154 x155 x156 x157 m384) v362 v363 x407 m425) v415 = some r := h
                    unfold m_laws_FnLit_j15 at h
                    refine aw_region ?_
                    refine awl_val hτ rfl rfl rfl ?_
                    refine awl_val hτ rfl rfl rfl ?_
                    refine awl_val hτ rfl rfl rfl ?_
                    refine awl_nil ?_
                    exact ⟨(m425, (w64 (v415 + (1 : Int)))), h, Nat.lt_succ_self m425, (weak_ofP [0, 1, 2, 3, 4, 5, 6] (l := [(5, .ptr 0 0), (6, .d (.int .i64 (x126.Feeder.Buses.length : Int))), (7, .d (.int .i64 (w64 ((1 : Int) + x130)))), (8, .row 1 v151.length 0 v151.length), (10, .row 2 x152.1.length 0 x152.1.length), (12, .row 3 x153.1.length 0 x153.1.length), (14, .row 4 x154.1.length 0 x154.1.length), (16, .row 5 x155.1.length 0 x155.1.length), (18, .d (.bool x156.1)), (20, .row 6 x157.1.length 0 x157.1.length), (22, .d (.int .i64 (w64 (v362 + (x407.length : Int))))), (23, .d (.int .i64 v363)), (24, .d (.int .i64 (w64 (v415 + (1 : Int)))))]) (objs := [.box [.d (.cx .f32 x126.Feeder.Source.A.re x126.Feeder.Source.A.im), .d (.cx .f32 x126.Feeder.Source.B.re x126.Feeder.Source.B.im), .d (.cx .f32 x126.Feeder.Source.C.re x126.Feeder.Source.C.im), .d (.sl false (x126.Feeder.Buses.map eSBus)), .d (.sl false (x126.Ties.map eSTie))], .row 1 (v151.map eInti64), .row 1 (x152.1.map eInti64), .row 1 (x153.1.map eLInt), .row 1 (x154.1.map eInti64), .row 1 (x155.1.map eInti64), .row 1 (x157.1.map eInti64)]) rfl (by simp) rfl (by repeat' first | exact trivial | refine ⟨?_, ?_⟩) ⟨rfl, trivial, rfl, trivial, rfl, trivial, rfl, trivial, rfl, trivial, rfl, trivial, rfl, trivial, rfl, trivial, rfl, trivial, rfl, trivial, rfl, trivial, rfl, trivial, rfl, trivial, trivial⟩)⟩
                  · refine aw_seq ?_
                    refine aw_block ?_
                    refine aw_hk1 (ι := Bool) (fun v445 => St.of [(5, .ptr 0 0), (6, .d (.int .i64 (x126.Feeder.Buses.length : Int))), (7, .d (.int .i64 (w64 ((1 : Int) + x130)))), (8, .row 1 v151.length 0 v151.length), (10, .row 2 x152.1.length 0 x152.1.length), (12, .row 3 x153.1.length 0 x153.1.length), (14, .row 4 x154.1.length 0 x154.1.length), (16, .row 5 x155.1.length 0 x155.1.length), (18, .d (.bool x156.1)), (20, .row 6 x157.1.length 0 x157.1.length), (22, .d (.int .i64 (w64 (v362 + (x407.length : Int))))), (23, .d (.int .i64 v363)), (24, .d (.int .i64 v415)), (215, .d (.bool v445))] [.box [.d (.cx .f32 x126.Feeder.Source.A.re x126.Feeder.Source.A.im), .d (.cx .f32 x126.Feeder.Source.B.re x126.Feeder.Source.B.im), .d (.cx .f32 x126.Feeder.Source.C.re x126.Feeder.Source.C.im), .d (.sl false (x126.Feeder.Buses.map eSBus)), .d (.sl false (x126.Ties.map eSTie))], .row 1 (v151.map eInti64), .row 1 (x152.1.map eInti64), .row 1 (x153.1.map eLInt), .row 1 (x154.1.map eInti64), .row 1 (x155.1.map eInti64), .row 1 (x157.1.map eInti64)] f3.ntmps 0) (fun v445 => m_laws_FnLit_j16 n (m_laws_FnLit_l14 n x152 x153 x154 (m_laws_FnLit_l12 n x126 x130 v151 x152 x153 x154 x155 x156 x157 m384) v362 v363 x407 m425) v415 v445 = some r) ?_ (fun hk447 => ?_)
                    · rintro v445 h
                      replace h : m_laws_FnLit_j16 n (m_laws_FnLit_l14 n x152 x153 x154 (m_laws_FnLit_l12 n x126 x130 v151 x152 x153 x154 x155 x156 x157 m384) v362 v363 x407 m425) v415 v445 = some r := h
                      unfold m_laws_FnLit_j16 at h
                      refine aw_cond rfl (fun hc446 => ?_) (fun hc446 => ?_)
                      · have h := if_bt h hc446
                        refine aw_seq ?_
                        refine aw_region ?_
                        refine awl_val hτ rfl rfl rfl ?_
                        refine awl_nil ?_
                        refine aw_weak (weak_ofP [] (l := [(4, .d (.bool false))]) (objs := []) rfl (by simp) rfl (by repeat' first | exact trivial | refine ⟨?_, ?_⟩) ⟨rfl, trivial, trivial⟩) ?_
                        refine aw_ret ?_
                        have hr := Option.some.inj h
                        subst hr
                        exact ret_objs (.inr rfl) [] (objs' := []) (new := []) rfl (by simp) (by simp) rfl (by repeat' first | exact trivial | refine ⟨?_, ?_⟩) rfl rfl (by repeat' first | exact trivial | refine ⟨?_, ?_⟩) (fun _ => ⟨by simp [V.flat, V.flatA, V.flatC, D.flat], flat_nil⟩) ⟨rfl, rfl, rfl⟩
                      · have h := if_bf h hc446
                        refine aw_skip ?_
                        refine aw_weak (weak_ofP [0, 1, 2, 3, 4, 5, 6] (l := [(5, .ptr 0 0), (6, .d (.int .i64 (x126.Feeder.Buses.length : Int))), (7, .d (.int .i64 (w64 ((1 : Int) + x130)))), (8, .row 1 v151.length 0 v151.length), (10, .row 2 x152.1.length 0 x152.1.length), (12, .row 3 x153.1.length 0 x153.1.length), (14, .row 4 x154.1.length 0 x154.1.length), (16, .row 5 x155.1.length 0 x155.1.length), (18, .d (.bool x156.1)), (20, .row 6 x157.1.length 0 x157.1.length), (22, .d (.int .i64 (w64 (v362 + (x407.length : Int))))), (23, .d (.int .i64 v363)), (24, .d (.int .i64 v415))]) (objs := [.box [.d (.cx .f32 x126.Feeder.Source.A.re x126.Feeder.Source.A.im), .d (.cx .f32 x126.Feeder.Source.B.re x126.Feeder.Source.B.im), .d (.cx .f32 x126.Feeder.Source.C.re x126.Feeder.Source.C.im), .d (.sl false (x126.Feeder.Buses.map eSBus)), .d (.sl false (x126.Ties.map eSTie))], .row 1 (v151.map eInti64), .row 1 (x152.1.map eInti64), .row 1 (x153.1.map eLInt), .row 1 (x154.1.map eInti64), .row 1 (x155.1.map eInti64), .row 1 (x157.1.map eInti64)]) rfl (by simp) rfl (by repeat' first | exact trivial | refine ⟨?_, ?_⟩) ⟨rfl, trivial, rfl, trivial, rfl, trivial, rfl, trivial, rfl, trivial, rfl, trivial, rfl, trivial, rfl, trivial, rfl, trivial, rfl, trivial, rfl, trivial, rfl, trivial, rfl, trivial, trivial⟩) ?_
                        exact hk437 () h
                    · refine aw_seq ?_
                      refine any_start ?_
                      refine any_val hτ [] 0 rfl rfl rfl rfl rfl ?_
                      refine any_val hτ [] 1 rfl rfl rfl rfl rfl ?_
                      refine any_val hτ [] 2 rfl rfl rfl rfl rfl ?_
                      refine any_need hτ [3] 3 rfl rfl rfl rfl rfl (row_need hx428) ?_
                      refine any_elem hτ [3] 4 rfl rfl rfl rfl rfl (len_map _) (row_get hx428) rfl ?_
                      refine any_val hτ [] 5 rfl rfl rfl rfl rfl ?_
                      refine bnd_elim h fun x448 hx448 h => ?_
                      refine any_elem hτ [] 6 rfl rfl rfl rfl rfl (getI_some hx448).1 (map_getI hx448) rfl ?_
                      refine any_val hτ [] 7 rfl rfl rfl rfl rfl ?_
                      refine bnd_elim h fun x449 hx449 h => ?_
                      refine any_callP hτ true [] [0, 1, 2, 3, 4, 5, 6] 8 rfl rfl rfl rfl (enterOk func16 rfl rfl) (mapO_cons (exV_view (f := eInti64) x152.1 rfl rfl rfl) (mapO_cons rfl mapO_nil)) rfl (by simp) ⟨(exVP_view (f := eInti64) x152.1 rfl rfl rfl), trivial, trivial⟩ (by repeat' first | exact trivial | refine ⟨?_, ?_⟩) (laws_r8In_ok_fr n x152.1 x448 hx449) ⟨rfl, rfl, rfl, rfl, rfl, rfl, rfl, trivial⟩ ?_
                      refine any_val hτ [] 9 rfl rfl rfl rfl rfl ?_
                      refine any_val hτ [] 10 rfl rfl rfl rfl rfl ?_
                      refine any_split 196 rfl (fun hb450 => ?_) (fun hb450 => ?_)
                      · have hb450 := not_t hb450
                        have h := if_bf h hb450
                        refine any_skip 11 rfl rfl rfl ?_
                        refine any_skip 12 rfl rfl rfl ?_
                        refine any_skip 13 rfl rfl rfl ?_
                        refine any_skip 14 rfl rfl rfl ?_
                        refine any_skip 15 rfl rfl rfl ?_
                        refine any_skip 16 rfl rfl rfl ?_
                        refine any_skip 17 rfl rfl rfl ?_
                        refine any_skip 18 rfl rfl rfl ?_
                        refine any_skip 20 rfl rfl rfl ?_
                        refine any_skip 21 rfl rfl rfl ?_
                        refine any_skip 22 rfl rfl rfl ?_
                        refine any_skip 23 rfl rfl rfl ?_
                        refine any_skip 24 rfl rfl rfl ?_
                        refine any_skip 25 rfl rfl rfl ?_
                        refine any_skip 26 rfl rfl rfl ?_
                        refine any_skip 19 rfl rfl rfl ?_
                        refine any_skip 27 rfl rfl rfl ?_
                        refine any_skip 28 rfl rfl rfl ?_
                        refine any_val hτ [] 29 rfl rfl rfl rfl rfl ?_
                        refine any_done mixed (by kernel_rfl) ?_
                        refine aw_weak (weak_ofP [0, 1, 2, 3, 4, 5, 6] (l := [(5, .ptr 0 0), (6, .d (.int .i64 (x126.Feeder.Buses.length : Int))), (7, .d (.int .i64 (w64 ((1 : Int) + x130)))), (8, .row 1 v151.length 0 v151.length), (10, .row 2 x152.1.length 0 x152.1.length), (12, .row 3 x153.1.length 0 x153.1.length), (14, .row 4 x154.1.length 0 x154.1.length), (16, .row 5 x155.1.length 0 x155.1.length), (18, .d (.bool x156.1)), (20, .row 6 x157.1.length 0 x157.1.length), (22, .d (.int .i64 (w64 (v362 + (x407.length : Int))))), (23, .d (.int .i64 v363)), (24, .d (.int .i64 v415)), (215, .d (.bool true))]) (objs := [.box [.d (.cx .f32 x126.Feeder.Source.A.re x126.Feeder.Source.A.im), .d (.cx .f32 x126.Feeder.Source.B.re x126.Feeder.Source.B.im), .d (.cx .f32 x126.Feeder.Source.C.re x126.Feeder.Source.C.im), .d (.sl false (x126.Feeder.Buses.map eSBus)), .d (.sl false (x126.Ties.map eSTie))], .row 1 (v151.map eInti64), .row 1 (x152.1.map eInti64), .row 1 (x153.1.map eLInt), .row 1 (x154.1.map eInti64), .row 1 (x155.1.map eInti64), .row 1 (x157.1.map eInti64)]) rfl (by simp) rfl (by repeat' first | exact trivial | refine ⟨?_, ?_⟩) ⟨rfl, trivial, rfl, trivial, rfl, trivial, rfl, trivial, rfl, trivial, rfl, trivial, rfl, trivial, rfl, trivial, rfl, trivial, rfl, trivial, rfl, trivial, rfl, trivial, rfl, trivial, rfl, trivial, trivial⟩) ?_
                        exact hk447 true h
                      · have hb450 := not_f hb450
                        have h := if_bt h hb450
                        refine any_val hτ [] 11 rfl rfl rfl rfl rfl ?_
                        refine any_val hτ [] 12 rfl rfl rfl rfl rfl ?_
                        refine any_val hτ [] 13 rfl rfl rfl rfl rfl ?_
                        refine any_need hτ [3] 14 rfl rfl rfl rfl rfl (row_need hx428) ?_
                        refine any_elem hτ [3] 15 rfl rfl rfl rfl rfl (len_map _) (row_get hx428) rfl ?_
                        refine any_val hτ [] 16 rfl rfl rfl rfl rfl ?_
                        refine any_elem hτ [] 17 rfl rfl rfl rfl rfl (getI_some hx448).1 (map_getI hx448) rfl ?_
                        refine any_val hτ [] 18 rfl rfl rfl rfl rfl ?_
                        refine any_val hτ [] 20 rfl rfl rfl rfl rfl ?_
                        refine any_val hτ [] 21 rfl rfl rfl rfl rfl ?_
                        refine any_val hτ [] 22 rfl rfl rfl rfl rfl ?_
                        refine any_need hτ [3] 23 rfl rfl rfl rfl rfl (row_need hx428) ?_
                        refine any_elem hτ [3] 24 rfl rfl rfl rfl rfl (len_map _) (row_get hx428) rfl ?_
                        refine bnd_elim h fun x451 hx451 h => ?_
                        refine any_elem hτ [] 25 rfl rfl rfl rfl rfl (getI_some hx451).1 (map_getI hx451) rfl ?_
                        refine any_val hτ [] 26 rfl rfl rfl rfl rfl ?_
                        refine bnd_elim h fun x452 hx452 h => ?_
                        refine any_callP hτ true [] [0, 1, 2, 3, 4, 5, 6] 19 rfl rfl rfl rfl (enterOk func16 rfl rfl) (mapO_cons (exV_view (f := eInti64) x154.1 rfl rfl rfl) (mapO_cons rfl mapO_nil)) rfl (by simp) ⟨(exVP_view (f := eInti64) x154.1 rfl rfl rfl), trivial, trivial⟩ (by repeat' first | exact trivial | refine ⟨?_, ?_⟩) (laws_r8In_ok_fr n x154.1 x448 hx452) ⟨rfl, rfl, rfl, rfl, rfl, rfl, rfl, trivial⟩ ?_
                        refine bnd_elim h fun x453 hx453 h => ?_
                        refine any_callP hτ true [] [0, 1, 2, 3, 4, 5, 6] 27 rfl rfl rfl rfl (enterOk func16 rfl rfl) (mapO_cons (exV_view (f := eInti64) x154.1 rfl rfl rfl) (mapO_cons rfl mapO_nil)) rfl (by simp) ⟨(exVP_view (f := eInti64) x154.1 rfl rfl rfl), trivial, trivial⟩ (by repeat' first | exact trivial | refine ⟨?_, ?_⟩) (laws_r8In_ok_fr n x154.1 x451 hx453) ⟨rfl, rfl, rfl, rfl, rfl, rfl, rfl, trivial⟩ ?_
                        refine any_val hτ [] 28 rfl rfl rfl rfl rfl ?_
                        refine any_val hτ [] 29 rfl rfl rfl rfl rfl ?_
                        refine any_done mixed (by kernel_rfl) ?_
                        refine aw_weak (weak_ofP [0, 1, 2, 3, 4, 5, 6] (l := [(5, .ptr 0 0), (6, .d (.int .i64 (x126.Feeder.Buses.length : Int))), (7, .d (.int .i64 (w64 ((1 : Int) + x130)))), (8, .row 1 v151.length 0 v151.length), (10, .row 2 x152.1.length 0 x152.1.length), (12, .row 3 x153.1.length 0 x153.1.length), (14, .row 4 x154.1.length 0 x154.1.length), (16, .row 5 x155.1.length 0 x155.1.length), (18, .d (.bool x156.1)), (20, .row 6 x157.1.length 0 x157.1.length), (22, .d (.int .i64 (w64 (v362 + (x407.length : Int))))), (23, .d (.int .i64 v363)), (24, .d (.int .i64 v415)), (215, .d (.bool (!(x452 == x453))))]) (objs := [.box [.d (.cx .f32 x126.Feeder.Source.A.re x126.Feeder.Source.A.im), .d (.cx .f32 x126.Feeder.Source.B.re x126.Feeder.Source.B.im), .d (.cx .f32 x126.Feeder.Source.C.re x126.Feeder.Source.C.im), .d (.sl false (x126.Feeder.Buses.map eSBus)), .d (.sl false (x126.Ties.map eSTie))], .row 1 (v151.map eInti64), .row 1 (x152.1.map eInti64), .row 1 (x153.1.map eLInt), .row 1 (x154.1.map eInti64), .row 1 (x155.1.map eInti64), .row 1 (x157.1.map eInti64)]) rfl (by simp) rfl (by repeat' first | exact trivial | refine ⟨?_, ?_⟩) ⟨rfl, trivial, rfl, trivial, rfl, trivial, rfl, trivial, rfl, trivial, rfl, trivial, rfl, trivial, rfl, trivial, rfl, trivial, rfl, trivial, rfl, trivial, rfl, trivial, rfl, trivial, rfl, trivial, trivial⟩) ?_
                        exact hk447 (!(x452 == x453)) h
                · have h := if_f h hc429
                  refine aw_exit ?_
                  refine aw_weak (weak_ofP [0, 1, 2, 3, 4, 5, 6] (l := [(5, .ptr 0 0), (6, .d (.int .i64 (x126.Feeder.Buses.length : Int))), (7, .d (.int .i64 (w64 ((1 : Int) + x130)))), (8, .row 1 v151.length 0 v151.length), (10, .row 2 x152.1.length 0 x152.1.length), (12, .row 3 x153.1.length 0 x153.1.length), (14, .row 4 x154.1.length 0 x154.1.length), (16, .row 5 x155.1.length 0 x155.1.length), (18, .d (.bool x156.1)), (20, .row 6 x157.1.length 0 x157.1.length), (22, .d (.int .i64 (w64 (v362 + (x407.length : Int))))), (23, .d (.int .i64 v363))]) (objs := [.box [.d (.cx .f32 x126.Feeder.Source.A.re x126.Feeder.Source.A.im), .d (.cx .f32 x126.Feeder.Source.B.re x126.Feeder.Source.B.im), .d (.cx .f32 x126.Feeder.Source.C.re x126.Feeder.Source.C.im), .d (.sl false (x126.Feeder.Buses.map eSBus)), .d (.sl false (x126.Ties.map eSTie))], .row 1 (v151.map eInti64), .row 1 (x152.1.map eInti64), .row 1 (x153.1.map eLInt), .row 1 (x154.1.map eInti64), .row 1 (x155.1.map eInti64), .row 1 (x157.1.map eInti64)]) rfl (by simp) rfl (by repeat' first | exact trivial | refine ⟨?_, ?_⟩) ⟨rfl, trivial, rfl, trivial, rfl, trivial, rfl, trivial, rfl, trivial, rfl, trivial, rfl, trivial, rfl, trivial, rfl, trivial, rfl, trivial, rfl, trivial, rfl, trivial, trivial⟩) ?_
                  exact hk406 (w64 (v362 + (x407.length : Int))) h
            · have h := if_f h hc386
              refine aw_exit ?_
              refine aw_weak (weak_ofP [0, 1, 2, 4, 5, 6] (l := [(5, .ptr 0 0), (6, .d (.int .i64 (x126.Feeder.Buses.length : Int))), (7, .d (.int .i64 (w64 ((1 : Int) + x130)))), (8, .row 1 v151.length 0 v151.length), (10, .row 2 x152.1.length 0 x152.1.length), (14, .row 3 x154.1.length 0 x154.1.length), (16, .row 4 x155.1.length 0 x155.1.length), (18, .d (.bool x156.1)), (20, .row 5 x157.1.length 0 x157.1.length), (22, .d (.int .i64 v362))]) (objs := [.box [.d (.cx .f32 x126.Feeder.Source.A.re x126.Feeder.Source.A.im), .d (.cx .f32 x126.Feeder.Source.B.re x126.Feeder.Source.B.im), .d (.cx .f32 x126.Feeder.Source.C.re x126.Feeder.Source.C.im), .d (.sl false (x126.Feeder.Buses.map eSBus)), .d (.sl false (x126.Ties.map eSTie))], .row 1 (v151.map eInti64), .row 1 (x152.1.map eInti64), .row 1 (x154.1.map eInti64), .row 1 (x155.1.map eInti64), .row 1 (x157.1.map eInti64)]) rfl (by simp) rfl (by repeat' first | exact trivial | refine ⟨?_, ?_⟩) ⟨rfl, trivial, rfl, trivial, rfl, trivial, rfl, trivial, rfl, trivial, rfl, trivial, rfl, trivial, rfl, trivial, rfl, trivial, rfl, trivial, trivial⟩) ?_
              exact hk343 v362 h
        · refine aw_seq ?_
          refine aw_hk1 (ι := Bool) (fun v464 => St.of [(5, .ptr 0 0), (6, .d (.int .i64 (x126.Feeder.Buses.length : Int))), (7, .d (.int .i64 (w64 ((1 : Int) + x130)))), (8, .row 1 v151.length 0 v151.length), (10, .row 2 x152.1.length 0 x152.1.length), (12, .row 3 x153.1.length 0 x153.1.length), (14, .row 4 x154.1.length 0 x154.1.length), (16, .row 5 x155.1.length 0 x155.1.length), (18, .d (.bool x156.1)), (20, .row 6 x157.1.length 0 x157.1.length), (163, .d (.bool v464))] [.box [.d (.cx .f32 x126.Feeder.Source.A.re x126.Feeder.Source.A.im), .d (.cx .f32 x126.Feeder.Source.B.re x126.Feeder.Source.B.im), .d (.cx .f32 x126.Feeder.Source.C.re x126.Feeder.Source.C.im), .d (.sl false (x126.Feeder.Buses.map eSBus)), .d (.sl false (x126.Ties.map eSTie))], .row 1 (v151.map eInti64), .row 1 (x152.1.map eInti64), .row 1 (x153.1.map eLInt), .row 1 (x154.1.map eInti64), .row 1 (x155.1.map eInti64), .row 1 (x157.1.map eInti64)] f3.ntmps 0) (fun v464 => m_laws_FnLit_j17 n x126 x130 v151 x152 x153 x154 x155 x156 x157 v464 = some r) ?_ (fun hk466 => ?_)
          · rintro v464 h
            replace h : m_laws_FnLit_j17 n x126 x130 v151 x152 x153 x154 x155 x156 x157 v464 = some r := h
            unfold m_laws_FnLit_j17 at h
            refine aw_cond rfl (fun hc465 => ?_) (fun hc465 => ?_)
            · have h := if_bt h hc465
              refine aw_seq ?_
              refine aw_region ?_
              refine awl_val hτ rfl rfl rfl ?_
              refine awl_nil ?_
              refine aw_weak (weak_ofP [] (l := [(4, .d (.bool false))]) (objs := []) rfl (by simp) rfl (by repeat' first | exact trivial | refine ⟨?_, ?_⟩) ⟨rfl, trivial, trivial⟩) ?_
              refine aw_ret ?_
              have hr := Option.some.inj h
              subst hr
              exact ret_objs (.inr rfl) [] (objs' := []) (new := []) rfl (by simp) (by simp) rfl (by repeat' first | exact trivial | refine ⟨?_, ?_⟩) rfl rfl (by repeat' first | exact trivial | refine ⟨?_, ?_⟩) (fun _ => ⟨by simp [V.flat, V.flatA, V.flatC, D.flat], flat_nil⟩) ⟨rfl, rfl, rfl⟩
            · have h := if_bf h hc465
              refine aw_skip ?_
              refine aw_weak (weak_ofP [0, 1, 2, 3, 4, 5, 6] (l := [(5, .ptr 0 0), (6, .d (.int .i64 (x126.Feeder.Buses.length : Int))), (7, .d (.int .i64 (w64 ((1 : Int) + x130)))), (8, .row 1 v151.length 0 v151.length), (10, .row 2 x152.1.length 0 x152.1.length), (12, .row 3 x153.1.length 0 x153.1.length), (14, .row 4 x154.1.length 0 x154.1.length), (16, .row 5 x155.1.length 0 x155.1.length), (18, .d (.bool x156.1)), (20, .row 6 x157.1.length 0 x157.1.length)]) (objs := [.box [.d (.cx .f32 x126.Feeder.Source.A.re x126.Feeder.Source.A.im), .d (.cx .f32 x126.Feeder.Source.B.re x126.Feeder.Source.B.im), .d (.cx .f32 x126.Feeder.Source.C.re x126.Feeder.Source.C.im), .d (.sl false (x126.Feeder.Buses.map eSBus)), .d (.sl false (x126.Ties.map eSTie))], .row 1 (v151.map eInti64), .row 1 (x152.1.map eInti64), .row 1 (x153.1.map eLInt), .row 1 (x154.1.map eInti64), .row 1 (x155.1.map eInti64), .row 1 (x157.1.map eInti64)]) rfl (by simp) rfl (by repeat' first | exact trivial | refine ⟨?_, ?_⟩) ⟨rfl, trivial, rfl, trivial, rfl, trivial, rfl, trivial, rfl, trivial, rfl, trivial, rfl, trivial, rfl, trivial, rfl, trivial, rfl, trivial, trivial⟩) ?_
              exact hk454 () h
          · refine aw_seq ?_
            refine aw_weak (weak_ofP [0, 1, 2, 3, 4, 5, 6] (l := [(5, .ptr 0 0), (6, .d (.int .i64 (x126.Feeder.Buses.length : Int))), (7, .d (.int .i64 (w64 ((1 : Int) + x130)))), (8, .row 1 v151.length 0 v151.length), (10, .row 2 x152.1.length 0 x152.1.length), (11, .d (.bool x152.2)), (12, .row 3 x153.1.length 0 x153.1.length), (13, .d (.bool x153.2)), (14, .row 4 x154.1.length 0 x154.1.length), (15, .d (.bool x154.2)), (16, .row 5 x155.1.length 0 x155.1.length), (17, .d (.bool x155.2)), (18, .d (.bool x156.1)), (19, .d (.bool x156.2)), (20, .row 6 x157.1.length 0 x157.1.length), (21, .d (.bool x157.2))]) (objs := [.box [.d (.cx .f32 x126.Feeder.Source.A.re x126.Feeder.Source.A.im), .d (.cx .f32 x126.Feeder.Source.B.re x126.Feeder.Source.B.im), .d (.cx .f32 x126.Feeder.Source.C.re x126.Feeder.Source.C.im), .d (.sl false (x126.Feeder.Buses.map eSBus)), .d (.sl false (x126.Ties.map eSTie))], .row 1 (v151.map eInti64), .row 1 (x152.1.map eInti64), .row 1 (x153.1.map eLInt), .row 1 (x154.1.map eInti64), .row 1 (x155.1.map eInti64), .row 1 (x157.1.map eInti64)]) rfl (by simp) rfl (by repeat' first | exact trivial | refine ⟨?_, ?_⟩) ⟨rfl, trivial, rfl, trivial, rfl, trivial, rfl, trivial, rfl, trivial, rfl, trivial, rfl, trivial, rfl, trivial, rfl, trivial, rfl, trivial, rfl, trivial, rfl, trivial, rfl, trivial, rfl, trivial, rfl, trivial, rfl, trivial, trivial⟩) ?_
            refine aw_region ?_
            refine awl_val hτ rfl rfl rfl ?_
            refine awl_val hτ rfl rfl rfl ?_
            refine awl_val hτ rfl rfl rfl ?_
            refine awl_split 129 rfl (fun hb467 => ?_) (fun hb467 => ?_)
            · have hb467 := not_t hb467
              have h := if_bf h hb467
              refine awl_skip rfl rfl ?_
              refine awl_skip rfl rfl ?_
              refine awl_val hτ rfl rfl rfl ?_
              refine awl_val hτ rfl rfl rfl ?_
              refine awl_skip rfl rfl ?_
              refine awl_skip rfl rfl ?_
              refine awl_val hτ rfl rfl rfl ?_
              refine awl_val hτ rfl rfl rfl ?_
              refine awl_skip rfl rfl ?_
              refine awl_weak (weak_ofP [0, 1, 2, 3, 4, 5, 6] (l := [(5, .ptr 0 0), (6, .d (.int .i64 (x126.Feeder.Buses.length : Int))), (7, .d (.int .i64 (w64 ((1 : Int) + x130)))), (8, .row 1 v151.length 0 v151.length), (10, .row 2 x152.1.length 0 x152.1.length), (12, .row 3 x153.1.length 0 x153.1.length), (14, .row 4 x154.1.length 0 x154.1.length), (16, .row 5 x155.1.length 0 x155.1.length), (18, .d (.bool x156.1)), (19, .d (.bool x156.2)), (20, .row 6 x157.1.length 0 x157.1.length), (21, .d (.bool x157.2)), (137, .d (.bool true)), (138, .und)]) (objs := [.box [.d (.cx .f32 x126.Feeder.Source.A.re x126.Feeder.Source.A.im), .d (.cx .f32 x126.Feeder.Source.B.re x126.Feeder.Source.B.im), .d (.cx .f32 x126.Feeder.Source.C.re x126.Feeder.Source.C.im), .d (.sl false (x126.Feeder.Buses.map eSBus)), .d (.sl false (x126.Ties.map eSTie))], .row 1 (v151.map eInti64), .row 1 (x152.1.map eInti64), .row 1 (x153.1.map eLInt), .row 1 (x154.1.map eInti64), .row 1 (x155.1.map eInti64), .row 1 (x157.1.map eInti64)]) rfl (by simp) rfl (by repeat' first | exact trivial | refine ⟨?_, ?_⟩) ⟨rfl, trivial, rfl, trivial, rfl, trivial, rfl, trivial, rfl, trivial, rfl, trivial, rfl, trivial, rfl, trivial, rfl, trivial, rfl, trivial, rfl, trivial, rfl, trivial, rfl, trivial, rfl, trivial, trivial⟩) ?_
              refine awl_skip rfl rfl ?_
              refine awl_val hτ rfl rfl rfl ?_
              refine awl_val hτ rfl rfl rfl ?_
              refine awl_skip rfl rfl ?_
              refine awl_skip rfl rfl ?_
              refine awl_val hτ rfl rfl rfl ?_
              refine awl_val hτ rfl rfl rfl ?_
              refine awl_skip rfl rfl ?_
              refine awl_skip rfl rfl ?_
              refine awl_skip rfl rfl ?_
              refine awl_val hτ rfl rfl rfl ?_
              refine awl_val hτ rfl rfl rfl ?_
              refine awl_weak (weak_ofP [0, 1, 2, 3, 4, 5, 6] (l := [(5, .ptr 0 0), (6, .d (.int .i64 (x126.Feeder.Buses.length : Int))), (7, .d (.int .i64 (w64 ((1 : Int) + x130)))), (8, .row 1 v151.length 0 v151.length), (10, .row 2 x152.1.length 0 x152.1.length), (12, .row 3 x153.1.length 0 x153.1.length), (14, .row 4 x154.1.length 0 x154.1.length), (16, .row 5 x155.1.length 0 x155.1.length), (18, .d (.bool x156.1)), (20, .row 6 x157.1.length 0 x157.1.length), (150, .d (.bool true))]) (objs := [.box [.d (.cx .f32 x126.Feeder.Source.A.re x126.Feeder.Source.A.im), .d (.cx .f32 x126.Feeder.Source.B.re x126.Feeder.Source.B.im), .d (.cx .f32 x126.Feeder.Source.C.re x126.Feeder.Source.C.im), .d (.sl false (x126.Feeder.Buses.map eSBus)), .d (.sl false (x126.Ties.map eSTie))], .row 1 (v151.map eInti64), .row 1 (x152.1.map eInti64), .row 1 (x153.1.map eLInt), .row 1 (x154.1.map eInti64), .row 1 (x155.1.map eInti64), .row 1 (x157.1.map eInti64)]) rfl (by simp) rfl (by repeat' first | exact trivial | refine ⟨?_, ?_⟩) ⟨rfl, trivial, rfl, trivial, rfl, trivial, rfl, trivial, rfl, trivial, rfl, trivial, rfl, trivial, rfl, trivial, rfl, trivial, rfl, trivial, rfl, trivial, trivial⟩) ?_
              refine awl_skip rfl rfl ?_
              refine awl_skip rfl rfl ?_
              refine awl_skip rfl rfl ?_
              refine awl_val hτ rfl rfl rfl ?_
              refine awl_val hτ rfl rfl rfl ?_
              refine awl_skip rfl rfl ?_
              refine awl_skip rfl rfl ?_
              refine awl_skip rfl rfl ?_
              refine awl_skip rfl rfl ?_
              refine awl_skip rfl rfl ?_
              refine awl_skip rfl rfl ?_
              refine awl_skip rfl rfl ?_
              refine awl_weak (weak_ofP [0, 1, 2, 3, 4, 5, 6] (l := [(5, .ptr 0 0), (6, .d (.int .i64 (x126.Feeder.Buses.length : Int))), (7, .d (.int .i64 (w64 ((1 : Int) + x130)))), (8, .row 1 v151.length 0 v151.length), (10, .row 2 x152.1.length 0 x152.1.length), (12, .row 3 x153.1.length 0 x153.1.length), (14, .row 4 x154.1.length 0 x154.1.length), (16, .row 5 x155.1.length 0 x155.1.length), (18, .d (.bool x156.1)), (20, .row 6 x157.1.length 0 x157.1.length), (155, .d (.bool true)), (162, .und)]) (objs := [.box [.d (.cx .f32 x126.Feeder.Source.A.re x126.Feeder.Source.A.im), .d (.cx .f32 x126.Feeder.Source.B.re x126.Feeder.Source.B.im), .d (.cx .f32 x126.Feeder.Source.C.re x126.Feeder.Source.C.im), .d (.sl false (x126.Feeder.Buses.map eSBus)), .d (.sl false (x126.Ties.map eSTie))], .row 1 (v151.map eInti64), .row 1 (x152.1.map eInti64), .row 1 (x153.1.map eLInt), .row 1 (x154.1.map eInti64), .row 1 (x155.1.map eInti64), .row 1 (x157.1.map eInti64)]) rfl (by simp) rfl (by repeat' first | exact trivial | refine ⟨?_, ?_⟩) ⟨rfl, trivial, rfl, trivial, rfl, trivial, rfl, trivial, rfl, trivial, rfl, trivial, rfl, trivial, rfl, trivial, rfl, trivial, rfl, trivial, rfl, trivial, rfl, trivial, trivial⟩) ?_
              refine awl_val hτ rfl rfl rfl ?_
              refine awl_nil ?_
              refine aw_weak (weak_ofP [0, 1, 2, 3, 4, 5, 6] (l := [(5, .ptr 0 0), (6, .d (.int .i64 (x126.Feeder.Buses.length : Int))), (7, .d (.int .i64 (w64 ((1 : Int) + x130)))), (8, .row 1 v151.length 0 v151.length), (10, .row 2 x152.1.length 0 x152.1.length), (12, .row 3 x153.1.length 0 x153.1.length), (14, .row 4 x154.1.length 0 x154.1.length), (16, .row 5 x155.1.length 0 x155.1.length), (18, .d (.bool x156.1)), (20, .row 6 x157.1.length 0 x157.1.length), (163, .d (.bool true))]) (objs := [.box [.d (.cx .f32 x126.Feeder.Source.A.re x126.Feeder.Source.A.im), .d (.cx .f32 x126.Feeder.Source.B.re x126.Feeder.Source.B.im), .d (.cx .f32 x126.Feeder.Source.C.re x126.Feeder.Source.C.im), .d (.sl false (x126.Feeder.Buses.map eSBus)), .d (.sl false (x126.Ties.map eSTie))], .row 1 (v151.map eInti64), .row 1 (x152.1.map eInti64), .row 1 (x153.1.map eLInt), .row 1 (x154.1.map eInti64), .row 1 (x155.1.map eInti64), .row 1 (x157.1.map eInti64)]) rfl (by simp) rfl (by repeat' first | exact trivial | refine ⟨?_, ?_⟩) ⟨rfl, trivial, rfl, trivial, rfl, trivial, rfl, trivial, rfl, trivial, rfl, trivial, rfl, trivial, rfl, trivial, rfl, trivial, rfl, trivial, rfl, trivial, trivial⟩) ?_
              exact hk466 true h
            · have hb467 := not_f hb467
              have h := if_bt h hb467
              refine awl_val hτ rfl rfl rfl ?_
              refine awl_val hτ rfl rfl rfl ?_
              refine awl_val hτ rfl rfl rfl ?_
              refine awl_val hτ rfl rfl rfl ?_
              refine awl_split 133 rfl (fun hb468 => ?_) (fun hb468 => ?_)
              · have hb468 := not_t hb468
                have h := if_bf h hb468
                refine awl_skip rfl rfl ?_
                refine awl_skip rfl rfl ?_
                refine awl_val hτ rfl rfl rfl ?_
                refine awl_val hτ rfl rfl rfl ?_
                refine awl_skip rfl rfl ?_
                refine awl_weak (weak_ofP [0, 1, 2, 3, 4, 5, 6] (l := [(5, .ptr 0 0), (6, .d (.int .i64 (x126.Feeder.Buses.length : Int))), (7, .d (.int .i64 (w64 ((1 : Int) + x130)))), (8, .row 1 v151.length 0 v151.length), (10, .row 2 x152.1.length 0 x152.1.length), (12, .row 3 x153.1.length 0 x153.1.length), (14, .row 4 x154.1.length 0 x154.1.length), (16, .row 5 x155.1.length 0 x155.1.length), (18, .d (.bool x156.1)), (19, .d (.bool x156.2)), (20, .row 6 x157.1.length 0 x157.1.length), (21, .d (.bool x157.2)), (137, .d (.bool true)), (138, .und)]) (objs := [.box [.d (.cx .f32 x126.Feeder.Source.A.re x126.Feeder.Source.A.im), .d (.cx .f32 x126.Feeder.Source.B.re x126.Feeder.Source.B.im), .d (.cx .f32 x126.Feeder.Source.C.re x126.Feeder.Source.C.im), .d (.sl false (x126.Feeder.Buses.map eSBus)), .d (.sl false (x126.Ties.map eSTie))], .row 1 (v151.map eInti64), .row 1 (x152.1.map eInti64), .row 1 (x153.1.map eLInt), .row 1 (x154.1.map eInti64), .row 1 (x155.1.map eInti64), .row 1 (x157.1.map eInti64)]) rfl (by simp) rfl (by repeat' first | exact trivial | refine ⟨?_, ?_⟩) ⟨rfl, trivial, rfl, trivial, rfl, trivial, rfl, trivial, rfl, trivial, rfl, trivial, rfl, trivial, rfl, trivial, rfl, trivial, rfl, trivial, rfl, trivial, rfl, trivial, rfl, trivial, rfl, trivial, trivial⟩) ?_
                refine awl_skip rfl rfl ?_
                refine awl_val hτ rfl rfl rfl ?_
                refine awl_val hτ rfl rfl rfl ?_
                refine awl_skip rfl rfl ?_
                refine awl_skip rfl rfl ?_
                refine awl_val hτ rfl rfl rfl ?_
                refine awl_val hτ rfl rfl rfl ?_
                refine awl_skip rfl rfl ?_
                refine awl_skip rfl rfl ?_
                refine awl_skip rfl rfl ?_
                refine awl_val hτ rfl rfl rfl ?_
                refine awl_val hτ rfl rfl rfl ?_
                refine awl_weak (weak_ofP [0, 1, 2, 3, 4, 5, 6] (l := [(5, .ptr 0 0), (6, .d (.int .i64 (x126.Feeder.Buses.length : Int))), (7, .d (.int .i64 (w64 ((1 : Int) + x130)))), (8, .row 1 v151.length 0 v151.length), (10, .row 2 x152.1.length 0 x152.1.length), (12, .row 3 x153.1.length 0 x153.1.length), (14, .row 4 x154.1.length 0 x154.1.length), (16, .row 5 x155.1.length 0 x155.1.length), (18, .d (.bool x156.1)), (20, .row 6 x157.1.length 0 x157.1.length), (150, .d (.bool true))]) (objs := [.box [.d (.cx .f32 x126.Feeder.Source.A.re x126.Feeder.Source.A.im), .d (.cx .f32 x126.Feeder.Source.B.re x126.Feeder.Source.B.im), .d (.cx .f32 x126.Feeder.Source.C.re x126.Feeder.Source.C.im), .d (.sl false (x126.Feeder.Buses.map eSBus)), .d (.sl false (x126.Ties.map eSTie))], .row 1 (v151.map eInti64), .row 1 (x152.1.map eInti64), .row 1 (x153.1.map eLInt), .row 1 (x154.1.map eInti64), .row 1 (x155.1.map eInti64), .row 1 (x157.1.map eInti64)]) rfl (by simp) rfl (by repeat' first | exact trivial | refine ⟨?_, ?_⟩) ⟨rfl, trivial, rfl, trivial, rfl, trivial, rfl, trivial, rfl, trivial, rfl, trivial, rfl, trivial, rfl, trivial, rfl, trivial, rfl, trivial, rfl, trivial, trivial⟩) ?_
                refine awl_skip rfl rfl ?_
                refine awl_skip rfl rfl ?_
                refine awl_skip rfl rfl ?_
                refine awl_val hτ rfl rfl rfl ?_
                refine awl_val hτ rfl rfl rfl ?_
                refine awl_skip rfl rfl ?_
                refine awl_skip rfl rfl ?_
                refine awl_skip rfl rfl ?_
                refine awl_skip rfl rfl ?_
                refine awl_skip rfl rfl ?_
                refine awl_skip rfl rfl ?_
                refine awl_skip rfl rfl ?_
                refine awl_weak (weak_ofP [0, 1, 2, 3, 4, 5, 6] (l := [(5, .ptr 0 0), (6, .d (.int .i64 (x126.Feeder.Buses.length : Int))), (7, .d (.int .i64 (w64 ((1 : Int) + x130)))), (8, .row 1 v151.length 0 v151.length), (10, .row 2 x152.1.length 0 x152.1.length), (12, .row 3 x153.1.length 0 x153.1.length), (14, .row 4 x154.1.length 0 x154.1.length), (16, .row 5 x155.1.length 0 x155.1.length), (18, .d (.bool x156.1)), (20, .row 6 x157.1.length 0 x157.1.length), (155, .d (.bool true)), (162, .und)]) (objs := [.box [.d (.cx .f32 x126.Feeder.Source.A.re x126.Feeder.Source.A.im), .d (.cx .f32 x126.Feeder.Source.B.re x126.Feeder.Source.B.im), .d (.cx .f32 x126.Feeder.Source.C.re x126.Feeder.Source.C.im), .d (.sl false (x126.Feeder.Buses.map eSBus)), .d (.sl false (x126.Ties.map eSTie))], .row 1 (v151.map eInti64), .row 1 (x152.1.map eInti64), .row 1 (x153.1.map eLInt), .row 1 (x154.1.map eInti64), .row 1 (x155.1.map eInti64), .row 1 (x157.1.map eInti64)]) rfl (by simp) rfl (by repeat' first | exact trivial | refine ⟨?_, ?_⟩) ⟨rfl, trivial, rfl, trivial, rfl, trivial, rfl, trivial, rfl, trivial, rfl, trivial, rfl, trivial, rfl, trivial, rfl, trivial, rfl, trivial, rfl, trivial, rfl, trivial, trivial⟩) ?_
                refine awl_val hτ rfl rfl rfl ?_
                refine awl_nil ?_
                refine aw_weak (weak_ofP [0, 1, 2, 3, 4, 5, 6] (l := [(5, .ptr 0 0), (6, .d (.int .i64 (x126.Feeder.Buses.length : Int))), (7, .d (.int .i64 (w64 ((1 : Int) + x130)))), (8, .row 1 v151.length 0 v151.length), (10, .row 2 x152.1.length 0 x152.1.length), (12, .row 3 x153.1.length 0 x153.1.length), (14, .row 4 x154.1.length 0 x154.1.length), (16, .row 5 x155.1.length 0 x155.1.length), (18, .d (.bool x156.1)), (20, .row 6 x157.1.length 0 x157.1.length), (163, .d (.bool true))]) (objs := [.box [.d (.cx .f32 x126.Feeder.Source.A.re x126.Feeder.Source.A.im), .d (.cx .f32 x126.Feeder.Source.B.re x126.Feeder.Source.B.im), .d (.cx .f32 x126.Feeder.Source.C.re x126.Feeder.Source.C.im), .d (.sl false (x126.Feeder.Buses.map eSBus)), .d (.sl false (x126.Ties.map eSTie))], .row 1 (v151.map eInti64), .row 1 (x152.1.map eInti64), .row 1 (x153.1.map eLInt), .row 1 (x154.1.map eInti64), .row 1 (x155.1.map eInti64), .row 1 (x157.1.map eInti64)]) rfl (by simp) rfl (by repeat' first | exact trivial | refine ⟨?_, ?_⟩) ⟨rfl, trivial, rfl, trivial, rfl, trivial, rfl, trivial, rfl, trivial, rfl, trivial, rfl, trivial, rfl, trivial, rfl, trivial, rfl, trivial, rfl, trivial, trivial⟩) ?_
                exact hk466 true h
              · have hb468 := not_f hb468
                have h := if_bt h hb468
                refine awl_val hτ rfl rfl rfl ?_
                refine awl_val hτ rfl rfl rfl ?_
                refine awl_val hτ rfl rfl rfl ?_
                refine awl_val hτ rfl rfl rfl ?_
                refine awl_split 137 rfl (fun hb469 => ?_) (fun hb469 => ?_)
                · have hb469 := not_t hb469
                  have h := if_bf h hb469
                  refine awl_skip rfl rfl ?_
                  refine awl_weak (weak_ofP [0, 1, 2, 3, 4, 5, 6] (l := [(5, .ptr 0 0), (6, .d (.int .i64 (x126.Feeder.Buses.length : Int))), (7, .d (.int .i64 (w64 ((1 : Int) + x130)))), (8, .row 1 v151.length 0 v151.length), (10, .row 2 x152.1.length 0 x152.1.length), (12, .row 3 x153.1.length 0 x153.1.length), (14, .row 4 x154.1.length 0 x154.1.length), (16, .row 5 x155.1.length 0 x155.1.length), (18, .d (.bool x156.1)), (19, .d (.bool x156.2)), (20, .row 6 x157.1.length 0 x157.1.length), (21, .d (.bool x157.2)), (137, .d (.bool true)), (138, .und)]) (objs := [.box [.d (.cx .f32 x126.Feeder.Source.A.re x126.Feeder.Source.A.im), .d (.cx .f32 x126.Feeder.Source.B.re x126.Feeder.Source.B.im), .d (.cx .f32 x126.Feeder.Source.C.re x126.Feeder.Source.C.im), .d (.sl false (x126.Feeder.Buses.map eSBus)), .d (.sl false (x126.Ties.map eSTie))], .row 1 (v151.map eInti64), .row 1 (x152.1.map eInti64), .row 1 (x153.1.map eLInt), .row 1 (x154.1.map eInti64), .row 1 (x155.1.map eInti64), .row 1 (x157.1.map eInti64)]) rfl (by simp) rfl (by repeat' first | exact trivial | refine ⟨?_, ?_⟩) ⟨rfl, trivial, rfl, trivial, rfl, trivial, rfl, trivial, rfl, trivial, rfl, trivial, rfl, trivial, rfl, trivial, rfl, trivial, rfl, trivial, rfl, trivial, rfl, trivial, rfl, trivial, rfl, trivial, trivial⟩) ?_
                  refine awl_skip rfl rfl ?_
                  refine awl_val hτ rfl rfl rfl ?_
                  refine awl_val hτ rfl rfl rfl ?_
                  refine awl_skip rfl rfl ?_
                  refine awl_skip rfl rfl ?_
                  refine awl_val hτ rfl rfl rfl ?_
                  refine awl_val hτ rfl rfl rfl ?_
                  refine awl_skip rfl rfl ?_
                  refine awl_skip rfl rfl ?_
                  refine awl_skip rfl rfl ?_
                  refine awl_val hτ rfl rfl rfl ?_
                  refine awl_val hτ rfl rfl rfl ?_
                  refine awl_weak (weak_ofP [0, 1, 2, 3, 4, 5, 6] (l := [(5, .ptr 0 0), (6, .d (.int .i64 (x126.Feeder.Buses.length : Int))), (7, .d (.int .i64 (w64 ((1 : Int) + x130)))), (8, .row 1 v151.length 0 v151.length), (10, .row 2 x152.1.length 0 x152.1.length), (12, .row 3 x153.1.length 0 x153.1.length), (14, .row 4 x154.1.length 0 x154.1.length), (16, .row 5 x155.1.length 0 x155.1.length), (18, .d (.bool x156.1)), (20, .row 6 x157.1.length 0 x157.1.length), (150, .d (.bool true))]) (objs := [.box [.d (.cx .f32 x126.Feeder.Source.A.re x126.Feeder.Source.A.im), .d (.cx .f32 x126.Feeder.Source.B.re x126.Feeder.Source.B.im), .d (.cx .f32 x126.Feeder.Source.C.re x126.Feeder.Source.C.im), .d (.sl false (x126.Feeder.Buses.map eSBus)), .d (.sl false (x126.Ties.map eSTie))], .row 1 (v151.map eInti64), .row 1 (x152.1.map eInti64), .row 1 (x153.1.map eLInt), .row 1 (x154.1.map eInti64), .row 1 (x155.1.map eInti64), .row 1 (x157.1.map eInti64)]) rfl (by simp) rfl (by repeat' first | exact trivial | refine ⟨?_, ?_⟩) ⟨rfl, trivial, rfl, trivial, rfl, trivial, rfl, trivial, rfl, trivial, rfl, trivial, rfl, trivial, rfl, trivial, rfl, trivial, rfl, trivial, rfl, trivial, trivial⟩) ?_
                  refine awl_skip rfl rfl ?_
                  refine awl_skip rfl rfl ?_
                  refine awl_skip rfl rfl ?_
                  refine awl_val hτ rfl rfl rfl ?_
                  refine awl_val hτ rfl rfl rfl ?_
                  refine awl_skip rfl rfl ?_
                  refine awl_skip rfl rfl ?_
                  refine awl_skip rfl rfl ?_
                  refine awl_skip rfl rfl ?_
                  refine awl_skip rfl rfl ?_
                  refine awl_skip rfl rfl ?_
                  refine awl_skip rfl rfl ?_
                  refine awl_weak (weak_ofP [0, 1, 2, 3, 4, 5, 6] (l := [(5, .ptr 0 0), (6, .d (.int .i64 (x126.Feeder.Buses.length : Int))), (7, .d (.int .i64 (w64 ((1 : Int) + x130)))), (8, .row 1 v151.length 0 v151.length), (10, .row 2 x152.1.length 0 x152.1.length), (12, .row 3 x153.1.length 0 x153.1.length), (14, .row 4 x154.1.length 0 x154.1.length), (16, .row 5 x155.1.length 0 x155.1.length), (18, .d (.bool x156.1)), (20, .row 6 x157.1.length 0 x157.1.length), (155, .d (.bool true)), (162, .und)]) (objs := [.box [.d (.cx .f32 x126.Feeder.Source.A.re x126.Feeder.Source.A.im), .d (.cx .f32 x126.Feeder.Source.B.re x126.Feeder.Source.B.im), .d (.cx .f32 x126.Feeder.Source.C.re x126.Feeder.Source.C.im), .d (.sl false (x126.Feeder.Buses.map eSBus)), .d (.sl false (x126.Ties.map eSTie))], .row 1 (v151.map eInti64), .row 1 (x152.1.map eInti64), .row 1 (x153.1.map eLInt), .row 1 (x154.1.map eInti64), .row 1 (x155.1.map eInti64), .row 1 (x157.1.map eInti64)]) rfl (by simp) rfl (by repeat' first | exact trivial | refine ⟨?_, ?_⟩) ⟨rfl, trivial, rfl, trivial, rfl, trivial, rfl, trivial, rfl, trivial, rfl, trivial, rfl, trivial, rfl, trivial, rfl, trivial, rfl, trivial, rfl, trivial, rfl, trivial, trivial⟩) ?_
                  refine awl_val hτ rfl rfl rfl ?_
                  refine awl_nil ?_
                  refine aw_weak (weak_ofP [0, 1, 2, 3, 4, 5, 6] (l := [(5, .ptr 0 0), (6, .d (.int .i64 (x126.Feeder.Buses.length : Int))), (7, .d (.int .i64 (w64 ((1 : Int) + x130)))), (8, .row 1 v151.length 0 v151.length), (10, .row 2 x152.1.length 0 x152.1.length), (12, .row 3 x153.1.length 0 x153.1.length), (14, .row 4 x154.1.length 0 x154.1.length), (16, .row 5 x155.1.length 0 x155.1.length), (18, .d (.bool x156.1)), (20, .row 6 x157.1.length 0 x157.1.length), (163, .d (.bool true))]) (objs := [.box [.d (.cx .f32 x126.Feeder.Source.A.re x126.Feeder.Source.A.im), .d (.cx .f32 x126.Feeder.Source.B.re x126.Feeder.Source.B.im), .d (.cx .f32 x126.Feeder.Source.C.re x126.Feeder.Source.C.im), .d (.sl false (x126.Feeder.Buses.map eSBus)), .d (.sl false (x126.Ties.map eSTie))], .row 1 (v151.map eInti64), .row 1 (x152.1.map eInti64), .row 1 (x153.1.map eLInt), .row 1 (x154.1.map eInti64), .row 1 (x155.1.map eInti64), .row 1 (x157.1.map eInti64)]) rfl (by simp) rfl (by repeat' first | exact trivial | refine ⟨?_, ?_⟩) ⟨rfl, trivial, rfl, trivial, rfl, trivial, rfl, trivial, rfl, trivial, rfl, trivial, rfl, trivial, rfl, trivial, rfl, trivial, rfl, trivial, rfl, trivial, trivial⟩) ?_
                  exact hk466 true h
                · have hb469 := not_f hb469
                  have h := if_bt h hb469
                  refine awl_val hτ rfl rfl rfl ?_
                  refine awl_weak (weak_ofP [0, 1, 2, 3, 4, 5, 6] (l := [(5, .ptr 0 0), (6, .d (.int .i64 (x126.Feeder.Buses.length : Int))), (7, .d (.int .i64 (w64 ((1 : Int) + x130)))), (8, .row 1 v151.length 0 v151.length), (10, .row 2 x152.1.length 0 x152.1.length), (12, .row 3 x153.1.length 0 x153.1.length), (14, .row 4 x154.1.length 0 x154.1.length), (16, .row 5 x155.1.length 0 x155.1.length), (18, .d (.bool x156.1)), (19, .d (.bool x156.2)), (20, .row 6 x157.1.length 0 x157.1.length), (21, .d (.bool x157.2)), (137, .d (.bool false)), (138, .d (.bool x155.2))]) (objs := [.box [.d (.cx .f32 x126.Feeder.Source.A.re x126.Feeder.Source.A.im), .d (.cx .f32 x126.Feeder.Source.B.re x126.Feeder.Source.B.im), .d (.cx .f32 x126.Feeder.Source.C.re x126.Feeder.Source.C.im), .d (.sl false (x126.Feeder.Buses.map eSBus)), .d (.sl false (x126.Ties.map eSTie))], .row 1 (v151.map eInti64), .row 1 (x152.1.map eInti64), .row 1 (x153.1.map eLInt), .row 1 (x154.1.map eInti64), .row 1 (x155.1.map eInti64), .row 1 (x157.1.map eInti64)]) rfl (by simp) rfl (by repeat' first | exact trivial | refine ⟨?_, ?_⟩) ⟨rfl, trivial, rfl, trivial, rfl, trivial, rfl, trivial, rfl, trivial, rfl, trivial, rfl, trivial, rfl, trivial, rfl, trivial, rfl, trivial, rfl, trivial, rfl, trivial, rfl, trivial, rfl, trivial, trivial⟩) ?_
                  refine awl_val hτ rfl rfl rfl ?_
                  refine awl_val hτ rfl rfl rfl ?_
                  refine awl_val hτ rfl rfl rfl ?_
                  refine awl_split 141 rfl (fun hb470 => ?_) (fun hb470 => ?_)
                  · have hb470 := not_t hb470
                    have h := if_bf h hb470
                    refine awl_skip rfl rfl ?_
                    refine awl_skip rfl rfl ?_
                    refine awl_val hτ rfl rfl rfl ?_
                    refine awl_val hτ rfl rfl rfl ?_
                    refine awl_skip rfl rfl ?_
                    refine awl_skip rfl rfl ?_
                    refine awl_skip rfl rfl ?_
                    refine awl_val hτ rfl rfl rfl ?_
                    refine awl_val hτ rfl rfl rfl ?_
                    refine awl_weak (weak_ofP [0, 1, 2, 3, 4, 5, 6] (l := [(5, .ptr 0 0), (6, .d (.int .i64 (x126.Feeder.Buses.length : Int))), (7, .d (.int .i64 (w64 ((1 : Int) + x130)))), (8, .row 1 v151.length 0 v151.length), (10, .row 2 x152.1.length 0 x152.1.length), (12, .row 3 x153.1.length 0 x153.1.length), (14, .row 4 x154.1.length 0 x154.1.length), (16, .row 5 x155.1.length 0 x155.1.length), (18, .d (.bool x156.1)), (20, .row 6 x157.1.length 0 x157.1.length), (150, .d (.bool true))]) (objs := [.box [.d (.cx .f32 x126.Feeder.Source.A.re x126.Feeder.Source.A.im), .d (.cx .f32 x126.Feeder.Source.B.re x126.Feeder.Source.B.im), .d (.cx .f32 x126.Feeder.Source.C.re x126.Feeder.Source.C.im), .d (.sl false (x126.Feeder.Buses.map eSBus)), .d (.sl false (x126.Ties.map eSTie))], .row 1 (v151.map eInti64), .row 1 (x152.1.map eInti64), .row 1 (x153.1.map eLInt), .row 1 (x154.1.map eInti64), .row 1 (x155.1.map eInti64), .row 1 (x157.1.map eInti64)]) rfl (by simp) rfl (by repeat' first | exact trivial | refine ⟨?_, ?_⟩) ⟨rfl, trivial, rfl, trivial, rfl, trivial, rfl, trivial, rfl, trivial, rfl, trivial, rfl, trivial, rfl, trivial, rfl, trivial, rfl, trivial, rfl, trivial, trivial⟩) ?_
                    refine awl_skip rfl rfl ?_
                    refine awl_skip rfl rfl ?_
                    refine awl_skip rfl rfl ?_
                    refine awl_val hτ rfl rfl rfl ?_
                    refine awl_val hτ rfl rfl rfl ?_
                    refine awl_skip rfl rfl ?_
                    refine awl_skip rfl rfl ?_
                    refine awl_skip rfl rfl ?_
                    refine awl_skip rfl rfl ?_
                    refine awl_skip rfl rfl ?_
                    refine awl_skip rfl rfl ?_
                    refine awl_skip rfl rfl ?_
                    refine awl_weak (weak_ofP [0, 1, 2, 3, 4, 5, 6] (l := [(5, .ptr 0 0), (6, .d (.int .i64 (x126.Feeder.Buses.length : Int))), (7, .d (.int .i64 (w64 ((1 : Int) + x130)))), (8, .row 1 v151.length 0 v151.length), (10, .row 2 x152.1.length 0 x152.1.length), (12, .row 3 x153.1.length 0 x153.1.length), (14, .row 4 x154.1.length 0 x154.1.length), (16, .row 5 x155.1.length 0 x155.1.length), (18, .d (.bool x156.1)), (20, .row 6 x157.1.length 0 x157.1.length), (155, .d (.bool true)), (162, .und)]) (objs := [.box [.d (.cx .f32 x126.Feeder.Source.A.re x126.Feeder.Source.A.im), .d (.cx .f32 x126.Feeder.Source.B.re x126.Feeder.Source.B.im), .d (.cx .f32 x126.Feeder.Source.C.re x126.Feeder.Source.C.im), .d (.sl false (x126.Feeder.Buses.map eSBus)), .d (.sl false (x126.Ties.map eSTie))], .row 1 (v151.map eInti64), .row 1 (x152.1.map eInti64), .row 1 (x153.1.map eLInt), .row 1 (x154.1.map eInti64), .row 1 (x155.1.map eInti64), .row 1 (x157.1.map eInti64)]) rfl (by simp) rfl (by repeat' first | exact trivial | refine ⟨?_, ?_⟩) ⟨rfl, trivial, rfl, trivial, rfl, trivial, rfl, trivial, rfl, trivial, rfl, trivial, rfl, trivial, rfl, trivial, rfl, trivial, rfl, trivial, rfl, trivial, rfl, trivial, trivial⟩) ?_
                    refine awl_val hτ rfl rfl rfl ?_
                    refine awl_nil ?_
                    refine aw_weak (weak_ofP [0, 1, 2, 3, 4, 5, 6] (l := [(5, .ptr 0 0), (6, .d (.int .i64 (x126.Feeder.Buses.length : Int))), (7, .d (.int .i64 (w64 ((1 : Int) + x130)))), (8, .row 1 v151.length 0 v151.length), (10, .row 2 x152.1.length 0 x152.1.length), (12, .row 3 x153.1.length 0 x153.1.length), (14, .row 4 x154.1.length 0 x154.1.length), (16, .row 5 x155.1.length 0 x155.1.length), (18, .d (.bool x156.1)), (20, .row 6 x157.1.length 0 x157.1.length), (163, .d (.bool true))]) (objs := [.box [.d (.cx .f32 x126.Feeder.Source.A.re x126.Feeder.Source.A.im), .d (.cx .f32 x126.Feeder.Source.B.re x126.Feeder.Source.B.im), .d (.cx .f32 x126.Feeder.Source.C.re x126.Feeder.Source.C.im), .d (.sl false (x126.Feeder.Buses.map eSBus)), .d (.sl false (x126.Ties.map eSTie))], .row 1 (v151.map eInti64), .row 1 (x152.1.map eInti64), .row 1 (x153.1.map eLInt), .row 1 (x154.1.map eInti64), .row 1 (x155.1.map eInti64), .row 1 (x157.1.map eInti64)]) rfl (by simp) rfl (by repeat' first | exact trivial | refine ⟨?_, ?_⟩) ⟨rfl, trivial, rfl, trivial, rfl, trivial, rfl, trivial, rfl, trivial, rfl, trivial, rfl, trivial, rfl, trivial, rfl, trivial, rfl, trivial, rfl, trivial, trivial⟩) ?_
                    exact hk466 true h
                  · have hb470 := not_f hb470
                    have h := if_bt h hb470
                    refine awl_val hτ rfl rfl rfl ?_
                    refine awl_val hτ rfl rfl rfl ?_
                    refine awl_val hτ rfl rfl rfl ?_
                    refine awl_val hτ rfl rfl rfl ?_
                    refine awl_split 145 rfl (fun hb471 => ?_) (fun hb471 => ?_)
                    · have hb471 := not_t hb471
                      have h := if_bf h hb471
                      refine awl_skip rfl rfl ?_
                      refine awl_skip rfl rfl ?_
                      refine awl_skip rfl rfl ?_
                      refine awl_val hτ rfl rfl rfl ?_
                      refine awl_val hτ rfl rfl rfl ?_
                      refine awl_weak (weak_ofP [0, 1, 2, 3, 4, 5, 6] (l := [(5, .ptr 0 0), (6, .d (.int .i64 (x126.Feeder.Buses.length : Int))), (7, .d (.int .i64 (w64 ((1 : Int) + x130)))), (8, .row 1 v151.length 0 v151.length), (10, .row 2 x152.1.length 0 x152.1.length), (12, .row 3 x153.1.length 0 x153.1.length), (14, .row 4 x154.1.length 0 x154.1.length), (16, .row 5 x155.1.length 0 x155.1.length), (18, .d (.bool x156.1)), (20, .row 6 x157.1.length 0 x157.1.length), (150, .d (.bool true))]) (objs := [.box [.d (.cx .f32 x126.Feeder.Source.A.re x126.Feeder.Source.A.im), .d (.cx .f32 x126.Feeder.Source.B.re x126.Feeder.Source.B.im), .d (.cx .f32 x126.Feeder.Source.C.re x126.Feeder.Source.C.im), .d (.sl false (x126.Feeder.Buses.map eSBus)), .d (.sl false (x126.Ties.map eSTie))], .row 1 (v151.map eInti64), .row 1 (x152.1.map eInti64), .row 1 (x153.1.map eLInt), .row 1 (x154.1.map eInti64), .row 1 (x155.1.map eInti64), .row 1 (x157.1.map eInti64)]) rfl (by simp) rfl (by repeat' first | exact trivial | refine ⟨?_, ?_⟩) ⟨rfl, trivial, rfl, trivial, rfl, trivial, rfl, trivial, rfl, trivial, rfl, trivial, rfl, trivial, rfl, trivial, rfl, trivial, rfl, trivial, rfl, trivial, trivial⟩) ?_
                      refine awl_skip rfl rfl ?_
                      refine awl_skip rfl rfl ?_
                      refine awl_skip rfl rfl ?_
                      refine awl_val hτ rfl rfl rfl ?_
                      refine awl_val hτ rfl rfl rfl ?_
                      refine awl_skip rfl rfl ?_
                      refine awl_skip rfl rfl ?_
                      refine awl_skip rfl rfl ?_
                      refine awl_skip rfl rfl ?_
                      refine awl_skip rfl rfl ?_
                      refine awl_skip rfl rfl ?_
                      refine awl_skip rfl rfl ?_
                      refine awl_weak (weak_ofP [0, 1, 2, 3, 4, 5, 6] (l := [(5, .ptr 0 0), (6, .d (.int .i64 (x126.Feeder.Buses.length : Int))), (7, .d (.int .i64 (w64 ((1 : Int) + x130)))), (8, .row 1 v151.length 0 v151.length), (10, .row 2 x152.1.length 0 x152.1.length), (12, .row 3 x153.1.length 0 x153.1.length), (14, .row 4 x154.1.length 0 x154.1.length), (16, .row 5 x155.1.length 0 x155.1.length), (18, .d (.bool x156.1)), (20, .row 6 x157.1.length 0 x157.1.length), (155, .d (.bool true)), (162, .und)]) (objs := [.box [.d (.cx .f32 x126.Feeder.Source.A.re x126.Feeder.Source.A.im), .d (.cx .f32 x126.Feeder.Source.B.re x126.Feeder.Source.B.im), .d (.cx .f32 x126.Feeder.Source.C.re x126.Feeder.Source.C.im), .d (.sl false (x126.Feeder.Buses.map eSBus)), .d (.sl false (x126.Ties.map eSTie))], .row 1 (v151.map eInti64), .row 1 (x152.1.map eInti64), .row 1 (x153.1.map eLInt), .row 1 (x154.1.map eInti64), .row 1 (x155.1.map eInti64), .row 1 (x157.1.map eInti64)]) rfl (by simp) rfl (by repeat' first | exact trivial | refine ⟨?_, ?_⟩) ⟨rfl, trivial, rfl, trivial, rfl, trivial, rfl, trivial, rfl, trivial, rfl, trivial, rfl, trivial, rfl, trivial, rfl, trivial, rfl, trivial, rfl, trivial, rfl, trivial, trivial⟩) ?_
                      refine awl_val hτ rfl rfl rfl ?_
                      refine awl_nil ?_
                      refine aw_weak (weak_ofP [0, 1, 2, 3, 4, 5, 6] (l := [(5, .ptr 0 0), (6, .d (.int .i64 (x126.Feeder.Buses.length : Int))), (7, .d (.int .i64 (w64 ((1 : Int) + x130)))), (8, .row 1 v151.length 0 v151.length), (10, .row 2 x152.1.length 0 x152.1.length), (12, .row 3 x153.1.length 0 x153.1.length), (14, .row 4 x154.1.length 0 x154.1.length), (16, .row 5 x155.1.length 0 x155.1.length), (18, .d (.bool x156.1)), (20, .row 6 x157.1.length 0 x157.1.length), (163, .d (.bool true))]) (objs := [.box [.d (.cx .f32 x126.Feeder.Source.A.re x126.Feeder.Source.A.im), .d (.cx .f32 x126.Feeder.Source.B.re x126.Feeder.Source.B.im), .d (.cx .f32 x126.Feeder.Source.C.re x126.Feeder.Source.C.im), .d (.sl false (x126.Feeder.Buses.map eSBus)), .d (.sl false (x126.Ties.map eSTie))], .row 1 (v151.map eInti64), .row 1 (x152.1.map eInti64), .row 1 (x153.1.map eLInt), .row 1 (x154.1.map eInti64), .row 1 (x155.1.map eInti64), .row 1 (x157.1.map eInti64)]) rfl (by simp) rfl (by repeat' first | exact trivial | refine ⟨?_, ?_⟩) ⟨rfl, trivial, rfl, trivial, rfl, trivial, rfl, trivial, rfl, trivial, rfl, trivial, rfl, trivial, rfl, trivial, rfl, trivial, rfl, trivial, rfl, trivial, trivial⟩) ?_
                      exact hk466 true h
                    · have hb471 := not_f hb471
                      have h := if_bt h hb471
                      refine awl_val hτ rfl rfl rfl ?_
                      refine awl_val hτ rfl rfl rfl ?_
                      refine awl_val hτ rfl rfl rfl ?_
                      refine awl_val hτ rfl rfl rfl ?_
                      refine awl_val hτ rfl rfl rfl ?_
                      refine awl_weak (weak_ofP [0, 1, 2, 3, 4, 5, 6] (l := [(5, .ptr 0 0), (6, .d (.int .i64 (x126.Feeder.Buses.length : Int))), (7, .d (.int .i64 (w64 ((1 : Int) + x130)))), (8, .row 1 v151.length 0 v151.length), (10, .row 2 x152.1.length 0 x152.1.length), (12, .row 3 x153.1.length 0 x153.1.length), (14, .row 4 x154.1.length 0 x154.1.length), (16, .row 5 x155.1.length 0 x155.1.length), (18, .d (.bool x156.1)), (20, .row 6 x157.1.length 0 x157.1.length), (150, .d (.bool (x157.2 == x156.1)))]) (objs := [.box [.d (.cx .f32 x126.Feeder.Source.A.re x126.Feeder.Source.A.im), .d (.cx .f32 x126.Feeder.Source.B.re x126.Feeder.Source.B.im), .d (.cx .f32 x126.Feeder.Source.C.re x126.Feeder.Source.C.im), .d (.sl false (x126.Feeder.Buses.map eSBus)), .d (.sl false (x126.Ties.map eSTie))], .row 1 (v151.map eInti64), .row 1 (x152.1.map eInti64), .row 1 (x153.1.map eLInt), .row 1 (x154.1.map eInti64), .row 1 (x155.1.map eInti64), .row 1 (x157.1.map eInti64)]) rfl (by simp) rfl (by repeat' first | exact trivial | refine ⟨?_, ?_⟩) ⟨rfl, trivial, rfl, trivial, rfl, trivial, rfl, trivial, rfl, trivial, rfl, trivial, rfl, trivial, rfl, trivial, rfl, trivial, rfl, trivial, rfl, trivial, trivial⟩) ?_
                      refine awl_split 150 rfl (fun hb472 => ?_) (fun hb472 => ?_)
                      · have h := if_bt h hb472
                        refine awl_skip rfl rfl ?_
                        refine awl_skip rfl rfl ?_
                        refine awl_skip rfl rfl ?_
                        refine awl_val hτ rfl rfl rfl ?_
                        refine awl_val hτ rfl rfl rfl ?_
                        refine awl_skip rfl rfl ?_
                        refine awl_skip rfl rfl ?_
                        refine awl_skip rfl rfl ?_
                        refine awl_skip rfl rfl ?_
                        refine awl_skip rfl rfl ?_
                        refine awl_skip rfl rfl ?_
                        refine awl_skip rfl rfl ?_
                        refine awl_weak (weak_ofP [0, 1, 2, 3, 4, 5, 6] (l := [(5, .ptr 0 0), (6, .d (.int .i64 (x126.Feeder.Buses.length : Int))), (7, .d (.int .i64 (w64 ((1 : Int) + x130)))), (8, .row 1 v151.length 0 v151.length), (10, .row 2 x152.1.length 0 x152.1.length), (12, .row 3 x153.1.length 0 x153.1.length), (14, .row 4 x154.1.length 0 x154.1.length), (16, .row 5 x155.1.length 0 x155.1.length), (18, .d (.bool x156.1)), (20, .row 6 x157.1.length 0 x157.1.length), (155, .d (.bool true)), (162, .und)]) (objs := [.box [.d (.cx .f32 x126.Feeder.Source.A.re x126.Feeder.Source.A.im), .d (.cx .f32 x126.Feeder.Source.B.re x126.Feeder.Source.B.im), .d (.cx .f32 x126.Feeder.Source.C.re x126.Feeder.Source.C.im), .d (.sl false (x126.Feeder.Buses.map eSBus)), .d (.sl false (x126.Ties.map eSTie))], .row 1 (v151.map eInti64), .row 1 (x152.1.map eInti64), .row 1 (x153.1.map eLInt), .row 1 (x154.1.map eInti64), .row 1 (x155.1.map eInti64), .row 1 (x157.1.map eInti64)]) rfl (by simp) rfl (by repeat' first | exact trivial | refine ⟨?_, ?_⟩) ⟨rfl, trivial, rfl, trivial, rfl, trivial, rfl, trivial, rfl, trivial, rfl, trivial, rfl, trivial, rfl, trivial, rfl, trivial, rfl, trivial, rfl, trivial, rfl, trivial, trivial⟩) ?_
                        refine awl_val hτ rfl rfl rfl ?_
                        refine awl_nil ?_
                        refine aw_weak (weak_ofP [0, 1, 2, 3, 4, 5, 6] (l := [(5, .ptr 0 0), (6, .d (.int .i64 (x126.Feeder.Buses.length : Int))), (7, .d (.int .i64 (w64 ((1 : Int) + x130)))), (8, .row 1 v151.length 0 v151.length), (10, .row 2 x152.1.length 0 x152.1.length), (12, .row 3 x153.1.length 0 x153.1.length), (14, .row 4 x154.1.length 0 x154.1.length), (16, .row 5 x155.1.length 0 x155.1.length), (18, .d (.bool x156.1)), (20, .row 6 x157.1.length 0 x157.1.length), (163, .d (.bool true))]) (objs := [.box [.d (.cx .f32 x126.Feeder.Source.A.re x126.Feeder.Source.A.im), .d (.cx .f32 x126.Feeder.Source.B.re x126.Feeder.Source.B.im), .d (.cx .f32 x126.Feeder.Source.C.re x126.Feeder.Source.C.im), .d (.sl false (x126.Feeder.Buses.map eSBus)), .d (.sl false (x126.Ties.map eSTie))], .row 1 (v151.map eInti64), .row 1 (x152.1.map eInti64), .row 1 (x153.1.map eLInt), .row 1 (x154.1.map eInti64), .row 1 (x155.1.map eInti64), .row 1 (x157.1.map eInti64)]) rfl (by simp) rfl (by repeat' first | exact trivial | refine ⟨?_, ?_⟩) ⟨rfl, trivial, rfl, trivial, rfl, trivial, rfl, trivial, rfl, trivial, rfl, trivial, rfl, trivial, rfl, trivial, rfl, trivial, rfl, trivial, rfl, trivial, trivial⟩) ?_
                        exact hk466 true h
                      · have h := if_bf h hb472
                        refine awl_val hτ rfl rfl rfl ?_
                        refine awl_val hτ rfl rfl rfl ?_
                        refine awl_weak (weak_ofP [0, 1, 2, 3, 4, 5, 6] (l := [(5, .ptr 0 0), (6, .d (.int .i64 (x126.Feeder.Buses.length : Int))), (7, .d (.int .i64 (w64 ((1 : Int) + x130)))), (8, .row 1 v151.length 0 v151.length), (10, .row 2 x152.1.length 0 x152.1.length), (12, .row 3 x153.1.length 0 x153.1.length), (14, .row 4 x154.1.length 0 x154.1.length), (16, .row 5 x155.1.length 0 x155.1.length), (18, .d (.bool x156.1)), (20, .row 6 x157.1.length 0 x157.1.length), (150, .d (.bool false)), (151, .row 4 x154.1.length 0 x154.1.length), (152, .d (.int .i64 (w64 ((1 : Int) + x130))))]) (objs := [.box [.d (.cx .f32 x126.Feeder.Source.A.re x126.Feeder.Source.A.im), .d (.cx .f32 x126.Feeder.Source.B.re x126.Feeder.Source.B.im), .d (.cx .f32 x126.Feeder.Source.C.re x126.Feeder.Source.C.im), .d (.sl false (x126.Feeder.Buses.map eSBus)), .d (.sl false (x126.Ties.map eSTie))], .row 1 (v151.map eInti64), .row 1 (x152.1.map eInti64), .row 1 (x153.1.map eLInt), .row 1 (x154.1.map eInti64), .row 1 (x155.1.map eInti64), .row 1 (x157.1.map eInti64)]) rfl (by simp) rfl (by repeat' first | exact trivial | refine ⟨?_, ?_⟩) ⟨rfl, trivial, rfl, trivial, rfl, trivial, rfl, trivial, rfl, trivial, rfl, trivial, rfl, trivial, rfl, trivial, rfl, trivial, rfl, trivial, rfl, trivial, rfl, trivial, rfl, trivial, trivial⟩) ?_
                        refine bnd_elim h fun x473 hx473 h => ?_
                        refine awl_callP hτ true [] rfl rfl rfl (enterOk func16 rfl rfl) (mapO_cons (exV_view (f := eInti64) x154.1 rfl rfl rfl) (mapO_cons rfl mapO_nil)) rfl (by simp) ⟨(exVP_view (f := eInti64) x154.1 rfl rfl rfl), trivial, trivial⟩ (by repeat' first | exact trivial | refine ⟨?_, ?_⟩) (laws_r8In_ok_fr n x154.1 (w64 ((1 : Int) + x130)) hx473) ?_
                        rintro r0 o0 n0 ⟨rfl, rfl, rfl⟩ -
                        refine awl_val hτ rfl rfl rfl ?_
                        refine awl_val hτ rfl rfl rfl ?_
                        refine awl_split 155 rfl (fun hb474 => ?_) (fun hb474 => ?_)
                        · have h := if_bt h hb474
                          refine awl_skip rfl rfl ?_
                          refine awl_skip rfl rfl ?_
                          refine awl_skip rfl rfl ?_
                          refine awl_skip rfl rfl ?_
                          refine awl_skip rfl rfl ?_
                          refine awl_skip rfl rfl ?_
                          refine awl_skip rfl rfl ?_
                          refine awl_val hτ rfl rfl rfl ?_
                          refine awl_nil ?_
                          refine aw_weak (weak_ofP [0, 1, 2, 3, 4, 5, 6] (l := [(5, .ptr 0 0), (6, .d (.int .i64 (x126.Feeder.Buses.length : Int))), (7, .d (.int .i64 (w64 ((1 : Int) + x130)))), (8, .row 1 v151.length 0 v151.length), (10, .row 2 x152.1.length 0 x152.1.length), (12, .row 3 x153.1.length 0 x153.1.length), (14, .row 4 x154.1.length 0 x154.1.length), (16, .row 5 x155.1.length 0 x155.1.length), (18, .d (.bool x156.1)), (20, .row 6 x157.1.length 0 x157.1.length), (163, .d (.bool true))]) (objs := [.box [.d (.cx .f32 x126.Feeder.Source.A.re x126.Feeder.Source.A.im), .d (.cx .f32 x126.Feeder.Source.B.re x126.Feeder.Source.B.im), .d (.cx .f32 x126.Feeder.Source.C.re x126.Feeder.Source.C.im), .d (.sl false (x126.Feeder.Buses.map eSBus)), .d (.sl false (x126.Ties.map eSTie))], .row 1 (v151.map eInti64), .row 1 (x152.1.map eInti64), .row 1 (x153.1.map eLInt), .row 1 (x154.1.map eInti64), .row 1 (x155.1.map eInti64), .row 1 (x157.1.map eInti64)]) rfl (by simp) rfl (by repeat' first | exact trivial | refine ⟨?_, ?_⟩) ⟨rfl, trivial, rfl, trivial, rfl, trivial, rfl, trivial, rfl, trivial, rfl, trivial, rfl, trivial, rfl, trivial, rfl, trivial, rfl, trivial, rfl, trivial, trivial⟩) ?_
                          exact hk466 true h
                        · have h := if_bf h hb474
                          refine awl_val hτ rfl rfl rfl ?_
                          refine awl_need hτ rfl rfl rfl (len_map _) ?_
                          refine awl_val hτ rfl rfl rfl ?_
                          refine awl_need hτ rfl rfl rfl (len_map _) ?_
                          refine awl_val hτ rfl rfl rfl ?_
                          refine awl_val hτ rfl rfl rfl ?_
                          refine awl_val hτ (v := .d (.bool (!(decide ((w64 ((x155.1.length : Int) + (x152.1.length : Int))) = (x126.Feeder.Buses.length : Int)))))) rfl rfl (or_ine _ _) ?_
                          refine awl_val hτ rfl rfl rfl ?_
                          refine awl_nil ?_
                          refine aw_weak (weak_ofP [0, 1, 2, 3, 4, 5, 6] (l := [(5, .ptr 0 0), (6, .d (.int .i64 (x126.Feeder.Buses.length : Int))), (7, .d (.int .i64 (w64 ((1 : Int) + x130)))), (8, .row 1 v151.length 0 v151.length), (10, .row 2 x152.1.length 0 x152.1.length), (12, .row 3 x153.1.length 0 x153.1.length), (14, .row 4 x154.1.length 0 x154.1.length), (16, .row 5 x155.1.length 0 x155.1.length), (18, .d (.bool x156.1)), (20, .row 6 x157.1.length 0 x157.1.length), (163, .d (.bool (!(decide ((w64 ((x155.1.length : Int) + (x152.1.length : Int))) = (x126.Feeder.Buses.length : Int))))))]) (objs := [.box [.d (.cx .f32 x126.Feeder.Source.A.re x126.Feeder.Source.A.im), .d (.cx .f32 x126.Feeder.Source.B.re x126.Feeder.Source.B.im), .d (.cx .f32 x126.Feeder.Source.C.re x126.Feeder.Source.C.im), .d (.sl false (x126.Feeder.Buses.map eSBus)), .d (.sl false (x126.Ties.map eSTie))], .row 1 (v151.map eInti64), .row 1 (x152.1.map eInti64), .row 1 (x153.1.map eLInt), .row 1 (x154.1.map eInti64), .row 1 (x155.1.map eInti64), .row 1 (x157.1.map eInti64)]) rfl (by simp) rfl (by repeat' first | exact trivial | refine ⟨?_, ?_⟩) ⟨rfl, trivial, rfl, trivial, rfl, trivial, rfl, trivial, rfl, trivial, rfl, trivial, rfl, trivial, rfl, trivial, rfl, trivial, rfl, trivial, rfl, trivial, trivial⟩) ?_
                          exact hk466 (!(decide ((w64 ((x155.1.length : Int) + (x152.1.length : Int))) = (x126.Feeder.Buses.length : Int)))) h
      · refine aw_seq ?_
        refine aw_seq ?_
        refine aw_region ?_
        refine awl_val hτ rfl rfl rfl ?_
        refine awl_nil ?_
        refine aw_block ?_
        refine aw_loop (ι := Nat × List Int × Int) (fun (m496, v484, v485) => St.of [(1, .d (.sl false (more_.map eIntu8))), (5, .ptr 0 0), (6, .d (.int .i64 (x126.Feeder.Buses.length : Int))), (7, .d (.int .i64 (w64 ((1 : Int) + x130)))), (8, .row 3 v484.length 0 v484.length), (9, .d (.int .i64 v485))] [.box [.d (.cx .f32 x126.Feeder.Source.A.re x126.Feeder.Source.A.im), .d (.cx .f32 x126.Feeder.Source.B.re x126.Feeder.Source.B.im), .d (.cx .f32 x126.Feeder.Source.C.re x126.Feeder.Source.C.im), .row 1 x126.Feeder.Buses.length 0 x126.Feeder.Buses.length, .row 2 x126.Ties.length 0 x126.Ties.length], .row 8 (x126.Feeder.Buses.map eSBus), .row 5 (x126.Ties.map eSTie), .row 1 (v484.map eInti64)] f3.ntmps 0) (fun (m496, v484, v485) => m_laws_FnLit_l18 n more_ x126 x130 m496 v484 v485 = some r) (fun x => x.1) (n, ([] : List Int), (0 : Int)) h (weak_ofP [0, 1, 2, 3] (l := [(1, .d (.sl false (more_.map eIntu8))), (5, .ptr 0 0), (6, .d (.int .i64 (x126.Feeder.Buses.length : Int))), (7, .d (.int .i64 (w64 ((1 : Int) + x130)))), (8, .row 3 (([] : List Int).length) 0 (([] : List Int).length)), (9, .d (.int .i64 (0 : Int)))]) (objs := [.box [.d (.cx .f32 x126.Feeder.Source.A.re x126.Feeder.Source.A.im), .d (.cx .f32 x126.Feeder.Source.B.re x126.Feeder.Source.B.im), .d (.cx .f32 x126.Feeder.Source.C.re x126.Feeder.Source.C.im), .row 1 x126.Feeder.Buses.length 0 x126.Feeder.Buses.length, .row 2 x126.Ties.length 0 x126.Ties.length], .row 8 (x126.Feeder.Buses.map eSBus), .row 5 (x126.Ties.map eSTie), .row 1 (([] : List Int).map eInti64)]) rfl (by simp) rfl (by repeat' first | exact trivial | refine ⟨?_, ?_⟩) ⟨rfl, trivial, rfl, trivial, rfl, trivial, rfl, trivial, rfl, trivial, rfl, trivial, trivial⟩) ?_
        rintro ⟨m496, v484, v485⟩ h
        replace h : m_laws_FnLit_l18 n more_ x126 x130 m496 v484 v485 = some r := h
        rcases m496 with _ | m496
        · rw [m_laws_FnLit_l18] at h; cases h
        rw [m_laws_FnLit_l18] at h
        refine aw_seq ?_
        refine aw_seq ?_
        refine aw_region ?_
        refine awl_val hτ rfl rfl rfl ?_
        refine awl_val hτ rfl rfl rfl ?_
        refine awl_val hτ rfl rfl rfl ?_
        refine awl_need hτ rfl rfl rfl (len_map _) ?_
        refine awl_val hτ rfl rfl rfl ?_
        refine awl_nil ?_
        refine aw_cond rfl (fun hc498 => ?_) (fun hc498 => ?_)
        · have h := if_t h hc498
          refine aw_skip ?_
          refine aw_hk1 (ι := List Int) (fun v507 => St.of [(1, .d (.sl false (more_.map eIntu8))), (5, .ptr 0 0), (6, .d (.int .i64 (x126.Feeder.Buses.length : Int))), (7, .d (.int .i64 (w64 ((1 : Int) + x130)))), (8, .row 3 v507.length 0 v507.length), (9, .d (.int .i64 v485))] [.box [.d (.cx .f32 x126.Feeder.Source.A.re x126.Feeder.Source.A.im), .d (.cx .f32 x126.Feeder.Source.B.re x126.Feeder.Source.B.im), .d (.cx .f32 x126.Feeder.Source.C.re x126.Feeder.Source.C.im), .row 1 x126.Feeder.Buses.length 0 x126.Feeder.Buses.length, .row 2 x126.Ties.length 0 x126.Ties.length], .row 8 (x126.Feeder.Buses.map eSBus), .row 5 (x126.Ties.map eSTie), .row 1 (v507.map eInti64)] f3.ntmps 0) (fun v507 => m_laws_FnLit_j19 n (m_laws_FnLit_l18 n more_ x126 x130 m496) v485 v507 = some r) ?_ (fun hk508 => ?_)
          · rintro v507 h
            replace h : m_laws_FnLit_j19 n (m_laws_FnLit_l18 n more_ x126 x130 m496) v485 v507 = some r := h
            unfold m_laws_FnLit_j19 at h
            refine aw_region ?_
            refine awl_val hτ rfl rfl rfl ?_
            refine awl_val hτ rfl rfl rfl ?_
            refine awl_val hτ rfl rfl rfl ?_
            refine awl_nil ?_
            exact ⟨(m496, v507, (w64 (v485 + (1 : Int)))), h, Nat.lt_succ_self m496, (weak_ofP [0, 1, 2, 3] (l := [(1, .d (.sl false (more_.map eIntu8))), (5, .ptr 0 0), (6, .d (.int .i64 (x126.Feeder.Buses.length : Int))), (7, .d (.int .i64 (w64 ((1 : Int) + x130)))), (8, .row 3 v507.length 0 v507.length), (9, .d (.int .i64 (w64 (v485 + (1 : Int)))))]) (objs := [.box [.d (.cx .f32 x126.Feeder.Source.A.re x126.Feeder.Source.A.im), .d (.cx .f32 x126.Feeder.Source.B.re x126.Feeder.Source.B.im), .d (.cx .f32 x126.Feeder.Source.C.re x126.Feeder.Source.C.im), .row 1 x126.Feeder.Buses.length 0 x126.Feeder.Buses.length, .row 2 x126.Ties.length 0 x126.Ties.length], .row 8 (x126.Feeder.Buses.map eSBus), .row 5 (x126.Ties.map eSTie), .row 1 (v507.map eInti64)]) rfl (by simp) rfl (by repeat' first | exact trivial | refine ⟨?_, ?_⟩) ⟨rfl, trivial, rfl, trivial, rfl, trivial, rfl, trivial, rfl, trivial, rfl, trivial, trivial⟩)⟩
          · refine aw_seq ?_
            refine aw_block ?_
            refine aw_hk1 (ι := Bool) (fun v515 => St.of [(1, .d (.sl false (more_.map eIntu8))), (5, .ptr 0 0), (6, .d (.int .i64 (x126.Feeder.Buses.length : Int))), (7, .d (.int .i64 (w64 ((1 : Int) + x130)))), (8, .row 3 v484.length 0 v484.length), (9, .d (.int .i64 v485)), (82, .d (.bool v515))] [.box [.d (.cx .f32 x126.Feeder.Source.A.re x126.Feeder.Source.A.im), .d (.cx .f32 x126.Feeder.Source.B.re x126.Feeder.Source.B.im), .d (.cx .f32 x126.Feeder.Source.C.re x126.Feeder.Source.C.im), .row 1 x126.Feeder.Buses.length 0 x126.Feeder.Buses.length, .row 2 x126.Ties.length 0 x126.Ties.length], .row 8 (x126.Feeder.Buses.map eSBus), .row 5 (x126.Ties.map eSTie), .row 1 (v484.map eInti64)] f3.ntmps 0) (fun v515 => m_laws_FnLit_j20 n (m_laws_FnLit_l18 n more_ x126 x130 m496) v484 v485 v515 = some r) ?_ (fun hk518 => ?_)
            · rintro v515 h
              replace h : m_laws_FnLit_j20 n (m_laws_FnLit_l18 n more_ x126 x130 m496) v484 v485 v515 = some r := h
              unfold m_laws_FnLit_j20 at h
              refine aw_cond rfl (fun hc516 => ?_) (fun hc516 => ?_)
              · have h := if_bt h hc516
                refine aw_region ?_
                refine awl_val hτ rfl rfl rfl ?_
                refine awl_val hτ rfl rfl rfl ?_
                refine awl_valH hτ rfl rfl rfl ?_
                refine grd_elim h fun hg517 h => ?_
                refine awl_needH hτ rfl rfl (Eq.trans rfl (or_append (f := eInti64) v484 [v485] rfl)) ⟨⟨rfl, Nat.le_of_ble_eq_true rfl⟩, len_map _, rfl, rfl, hg517, by decide, (all1 rfl)⟩ ?_
                refine awl_val hτ rfl rfl rfl ?_
                refine awl_nil ?_
                refine aw_weak (weak_ofP [0, 1, 2, 3] (l := [(1, .d (.sl false (more_.map eIntu8))), (5, .ptr 0 0), (6, .d (.int .i64 (x126.Feeder.Buses.length : Int))), (7, .d (.int .i64 (w64 ((1 : Int) + x130)))), (8, .row 3 ((v484 ++ [v485]).length) 0 ((v484 ++ [v485]).length)), (9, .d (.int .i64 v485))]) (objs := [.box [.d (.cx .f32 x126.Feeder.Source.A.re x126.Feeder.Source.A.im), .d (.cx .f32 x126.Feeder.Source.B.re x126.Feeder.Source.B.im), .d (.cx .f32 x126.Feeder.Source.C.re x126.Feeder.Source.C.im), .row 1 x126.Feeder.Buses.length 0 x126.Feeder.Buses.length, .row 2 x126.Ties.length 0 x126.Ties.length], .row 8 (x126.Feeder.Buses.map eSBus), .row 5 (x126.Ties.map eSTie), .row 1 ((v484 ++ [v485]).map eInti64)]) rfl (by simp) rfl (by repeat' first | exact trivial | refine ⟨?_, ?_⟩) ⟨rfl, trivial, rfl, trivial, rfl, trivial, rfl, trivial, rfl, trivial, rfl, trivial, trivial⟩) ?_
                exact hk508 (v484 ++ [v485]) h
              · have h := if_bf h hc516
                refine aw_skip ?_
                refine aw_weak (weak_ofP [0, 1, 2, 3] (l := [(1, .d (.sl false (more_.map eIntu8))), (5, .ptr 0 0), (6, .d (.int .i64 (x126.Feeder.Buses.length : Int))), (7, .d (.int .i64 (w64 ((1 : Int) + x130)))), (8, .row 3 v484.length 0 v484.length), (9, .d (.int .i64 v485))]) (objs := [.box [.d (.cx .f32 x126.Feeder.Source.A.re x126.Feeder.Source.A.im), .d (.cx .f32 x126.Feeder.Source.B.re x126.Feeder.Source.B.im), .d (.cx .f32 x126.Feeder.Source.C.re x126.Feeder.Source.C.im), .row 1 x126.Feeder.Buses.length 0 x126.Feeder.Buses.length, .row 2 x126.Ties.length 0 x126.Ties.length], .row 8 (x126.Feeder.Buses.map eSBus), .row 5 (x126.Ties.map eSTie), .row 1 (v484.map eInti64)]) rfl (by simp) rfl (by repeat' first | exact trivial | refine ⟨?_, ?_⟩) ⟨rfl, trivial, rfl, trivial, rfl, trivial, rfl, trivial, rfl, trivial, rfl, trivial, trivial⟩) ?_
                exact hk508 v484 h
            · refine aw_seq ?_
              refine aw_region ?_
              refine awl_val hτ rfl rfl rfl ?_
              refine awl_val hτ rfl rfl rfl ?_
              refine awl_val hτ rfl rfl rfl ?_
              refine bnd_elim h fun x519 hx519 h => ?_
              refine awl_callP hτ false [] rfl rfl rfl (enterOk func10 rfl rfl) rfl rfl (by simp) ⟨trivial, trivial, trivial, trivial⟩ (by repeat' first | exact trivial | refine ⟨?_, ?_⟩) (laws_r8At_ok n more_ (w64 ((1 : Int) + v485)) (2 : Int) hx519) ?_
              rintro r0 o0 n0 ⟨rfl, rfl, rfl⟩ -
              refine awl_val hτ (v := .d (.bool (decide (x519 = (0 : Int))))) rfl rfl (or_ieq _ _) ?_
              refine awl_val hτ rfl rfl rfl ?_
              refine awl_split 63 rfl (fun hb520 => ?_) (fun hb520 => ?_)
              · have h := if_t h hb520
                refine awl_val hτ rfl rfl rfl ?_
                refine awl_weak (weak_ofP [0, 1, 2, 3] (l := [(1, .d (.sl false (more_.map eIntu8))), (5, .ptr 0 0), (6, .d (.int .i64 (x126.Feeder.Buses.length : Int))), (7, .d (.int .i64 (w64 ((1 : Int) + x130)))), (8, .row 3 v484.length 0 v484.length), (9, .d (.int .i64 v485)), (63, .d (.bool true)), (64, .ptr 0 4)]) (objs := [.box [.d (.cx .f32 x126.Feeder.Source.A.re x126.Feeder.Source.A.im), .d (.cx .f32 x126.Feeder.Source.B.re x126.Feeder.Source.B.im), .d (.cx .f32 x126.Feeder.Source.C.re x126.Feeder.Source.C.im), .row 1 x126.Feeder.Buses.length 0 x126.Feeder.Buses.length, .row 2 x126.Ties.length 0 x126.Ties.length], .row 8 (x126.Feeder.Buses.map eSBus), .row 5 (x126.Ties.map eSTie), .row 1 (v484.map eInti64)]) rfl (by simp) rfl (by repeat' first | exact trivial | refine ⟨?_, ?_⟩) ⟨rfl, trivial, rfl, trivial, rfl, trivial, rfl, trivial, rfl, trivial, rfl, trivial, rfl, trivial, rfl, trivial, trivial⟩) ?_
                refine awl_val hτ rfl rfl rfl ?_
                refine awl_val hτ rfl rfl rfl ?_
                refine bnd_elim h fun x521 hx521 h => ?_
                refine awl_need hτ rfl rfl rfl (row_need hx521) ?_
                refine awl_need hτ rfl rfl rfl (len_map _) ?_
                refine awl_elem hτ rfl rfl rfl (len_map _) (row_get hx521) rfl ?_
                refine awl_val hτ rfl rfl rfl ?_
                refine awl_val hτ (v := .d (.bool (!(decide (x521.A = (w64 ((1 : Int) + x130))))))) rfl rfl (or_ine _ _) ?_
                refine awl_val hτ rfl rfl rfl ?_
                refine awl_val hτ rfl rfl rfl ?_
                refine awl_split 73 rfl (fun hb522 => ?_) (fun hb522 => ?_)
                · have hb522 := not_t hb522
                  have h := if_f h hb522
                  refine awl_val hτ rfl rfl rfl ?_
                  refine awl_val hτ rfl rfl rfl ?_
                  refine awl_val hτ rfl rfl rfl ?_
                  refine awl_weak (weak_ofP [0, 1, 2, 3] (l := [(1, .d (.sl false (more_.map eIntu8))), (5, .ptr 0 0), (6, .d (.int .i64 (x126.Feeder.Buses.length : Int))), (7, .d (.int .i64 (w64 ((1 : Int) + x130)))), (8, .row 3 v484.length 0 v484.length), (9, .d (.int .i64 v485)), (73, .d (.bool true)), (75, .row 2 x126.Ties.length 0 x126.Ties.length), (76, .d (.int .i64 v485))]) (objs := [.box [.d (.cx .f32 x126.Feeder.Source.A.re x126.Feeder.Source.A.im), .d (.cx .f32 x126.Feeder.Source.B.re x126.Feeder.Source.B.im), .d (.cx .f32 x126.Feeder.Source.C.re x126.Feeder.Source.C.im), .row 1 x126.Feeder.Buses.length 0 x126.Feeder.Buses.length, .row 2 x126.Ties.length 0 x126.Ties.length], .row 8 (x126.Feeder.Buses.map eSBus), .row 5 (x126.Ties.map eSTie), .row 1 (v484.map eInti64)]) rfl (by simp) rfl (by repeat' first | exact trivial | refine ⟨?_, ?_⟩) ⟨rfl, trivial, rfl, trivial, rfl, trivial, rfl, trivial, rfl, trivial, rfl, trivial, rfl, trivial, rfl, trivial, rfl, trivial, trivial⟩) ?_
                  refine awl_need hτ rfl rfl rfl (row_need hx521) ?_
                  refine awl_need hτ rfl rfl rfl (len_map _) ?_
                  refine awl_elem hτ rfl rfl rfl (len_map _) (row_get hx521) rfl ?_
                  refine awl_val hτ rfl rfl rfl ?_
                  refine awl_val hτ (v := .d (.bool (!(decide (x521.B = (w64 ((1 : Int) + x130))))))) rfl rfl (or_ine _ _) ?_
                  refine awl_val hτ rfl rfl rfl ?_
                  refine awl_nil ?_
                  refine aw_weak (weak_ofP [0, 1, 2, 3] (l := [(1, .d (.sl false (more_.map eIntu8))), (5, .ptr 0 0), (6, .d (.int .i64 (x126.Feeder.Buses.length : Int))), (7, .d (.int .i64 (w64 ((1 : Int) + x130)))), (8, .row 3 v484.length 0 v484.length), (9, .d (.int .i64 v485)), (82, .d (.bool (!(decide (x521.B = (w64 ((1 : Int) + x130)))))))]) (objs := [.box [.d (.cx .f32 x126.Feeder.Source.A.re x126.Feeder.Source.A.im), .d (.cx .f32 x126.Feeder.Source.B.re x126.Feeder.Source.B.im), .d (.cx .f32 x126.Feeder.Source.C.re x126.Feeder.Source.C.im), .row 1 x126.Feeder.Buses.length 0 x126.Feeder.Buses.length, .row 2 x126.Ties.length 0 x126.Ties.length], .row 8 (x126.Feeder.Buses.map eSBus), .row 5 (x126.Ties.map eSTie), .row 1 (v484.map eInti64)]) rfl (by simp) rfl (by repeat' first | exact trivial | refine ⟨?_, ?_⟩) ⟨rfl, trivial, rfl, trivial, rfl, trivial, rfl, trivial, rfl, trivial, rfl, trivial, rfl, trivial, trivial⟩) ?_
                  exact hk518 (!(decide (x521.B = (w64 ((1 : Int) + x130))))) h
                · have hb522 := not_f hb522
                  have h := if_t h hb522
                  refine awl_skip rfl rfl ?_
                  refine awl_skip rfl rfl ?_
                  refine awl_skip rfl rfl ?_
                  refine awl_weak (weak_ofP [0, 1, 2, 3] (l := [(1, .d (.sl false (more_.map eIntu8))), (5, .ptr 0 0), (6, .d (.int .i64 (x126.Feeder.Buses.length : Int))), (7, .d (.int .i64 (w64 ((1 : Int) + x130)))), (8, .row 3 v484.length 0 v484.length), (9, .d (.int .i64 v485)), (73, .d (.bool false)), (75, .und), (76, .und)]) (objs := [.box [.d (.cx .f32 x126.Feeder.Source.A.re x126.Feeder.Source.A.im), .d (.cx .f32 x126.Feeder.Source.B.re x126.Feeder.Source.B.im), .d (.cx .f32 x126.Feeder.Source.C.re x126.Feeder.Source.C.im), .row 1 x126.Feeder.Buses.length 0 x126.Feeder.Buses.length, .row 2 x126.Ties.length 0 x126.Ties.length], .row 8 (x126.Feeder.Buses.map eSBus), .row 5 (x126.Ties.map eSTie), .row 1 (v484.map eInti64)]) rfl (by simp) rfl (by repeat' first | exact trivial | refine ⟨?_, ?_⟩) ⟨rfl, trivial, rfl, trivial, rfl, trivial, rfl, trivial, rfl, trivial, rfl, trivial, rfl, trivial, rfl, trivial, rfl, trivial, trivial⟩) ?_
                  refine awl_skip rfl rfl ?_
                  refine awl_skip rfl rfl ?_
                  refine awl_skip rfl rfl ?_
                  refine awl_skip rfl rfl ?_
                  refine awl_skip rfl rfl ?_
                  refine awl_val hτ rfl rfl rfl ?_
                  refine awl_nil ?_
                  refine aw_weak (weak_ofP [0, 1, 2, 3] (l := [(1, .d (.sl false (more_.map eIntu8))), (5, .ptr 0 0), (6, .d (.int .i64 (x126.Feeder.Buses.length : Int))), (7, .d (.int .i64 (w64 ((1 : Int) + x130)))), (8, .row 3 v484.length 0 v484.length), (9, .d (.int .i64 v485)), (82, .d (.bool false))]) (objs := [.box [.d (.cx .f32 x126.Feeder.Source.A.re x126.Feeder.Source.A.im), .d (.cx .f32 x126.Feeder.Source.B.re x126.Feeder.Source.B.im), .d (.cx .f32 x126.Feeder.Source.C.re x126.Feeder.Source.C.im), .row 1 x126.Feeder.Buses.length 0 x126.Feeder.Buses.length, .row 2 x126.Ties.length 0 x126.Ties.length], .row 8 (x126.Feeder.Buses.map eSBus), .row 5 (x126.Ties.map eSTie), .row 1 (v484.map eInti64)]) rfl (by simp) rfl (by repeat' first | exact trivial | refine ⟨?_, ?_⟩) ⟨rfl, trivial, rfl, trivial, rfl, trivial, rfl, trivial, rfl, trivial, rfl, trivial, rfl, trivial, trivial⟩) ?_
                  exact hk518 false h
              · have h := if_f h hb520
                refine awl_skip rfl rfl ?_
                refine awl_weak (weak_ofP [0, 1, 2, 3] (l := [(1, .d (.sl false (more_.map eIntu8))), (5, .ptr 0 0), (6, .d (.int .i64 (x126.Feeder.Buses.length : Int))), (7, .d (.int .i64 (w64 ((1 : Int) + x130)))), (8, .row 3 v484.length 0 v484.length), (9, .d (.int .i64 v485)), (63, .d (.bool false)), (64, .und)]) (objs := [.box [.d (.cx .f32 x126.Feeder.Source.A.re x126.Feeder.Source.A.im), .d (.cx .f32 x126.Feeder.Source.B.re x126.Feeder.Source.B.im), .d (.cx .f32 x126.Feeder.Source.C.re x126.Feeder.Source.C.im), .row 1 x126.Feeder.Buses.length 0 x126.Feeder.Buses.length, .row 2 x126.Ties.length 0 x126.Ties.length], .row 8 (x126.Feeder.Buses.map eSBus), .row 5 (x126.Ties.map eSTie), .row 1 (v484.map eInti64)]) rfl (by simp) rfl (by repeat' first | exact trivial | refine ⟨?_, ?_⟩) ⟨rfl, trivial, rfl, trivial, rfl, trivial, rfl, trivial, rfl, trivial, rfl, trivial, rfl, trivial, rfl, trivial, trivial⟩) ?_
                refine awl_skip rfl rfl ?_
                refine awl_skip rfl rfl ?_
                refine awl_skip rfl rfl ?_
                refine awl_skip rfl rfl ?_
                refine awl_skip rfl rfl ?_
                refine awl_skip rfl rfl ?_
                refine awl_skip rfl rfl ?_
                refine awl_val hτ rfl rfl rfl ?_
                refine awl_val hτ rfl rfl rfl ?_
                refine awl_skip rfl rfl ?_
                refine awl_skip rfl rfl ?_
                refine awl_skip rfl rfl ?_
                refine awl_weak (weak_ofP [0, 1, 2, 3] (l := [(1, .d (.sl false (more_.map eIntu8))), (5, .ptr 0 0), (6, .d (.int .i64 (x126.Feeder.Buses.length : Int))), (7, .d (.int .i64 (w64 ((1 : Int) + x130)))), (8, .row 3 v484.length 0 v484.length), (9, .d (.int .i64 v485)), (73, .d (.bool false)), (75, .und), (76, .und)]) (objs := [.box [.d (.cx .f32 x126.Feeder.Source.A.re x126.Feeder.Source.A.im), .d (.cx .f32 x126.Feeder.Source.B.re x126.Feeder.Source.B.im), .d (.cx .f32 x126.Feeder.Source.C.re x126.Feeder.Source.C.im), .row 1 x126.Feeder.Buses.length 0 x126.Feeder.Buses.length, .row 2 x126.Ties.length 0 x126.Ties.length], .row 8 (x126.Feeder.Buses.map eSBus), .row 5 (x126.Ties.map eSTie), .row 1 (v484.map eInti64)]) rfl (by simp) rfl (by repeat' first | exact trivial | refine ⟨?_, ?_⟩) ⟨rfl, trivial, rfl, trivial, rfl, trivial, rfl, trivial, rfl, trivial, rfl, trivial, rfl, trivial, rfl, trivial, rfl, trivial, trivial⟩) ?_
                refine awl_skip rfl rfl ?_
                refine awl_skip rfl rfl ?_
                refine awl_skip rfl rfl ?_
                refine awl_skip rfl rfl ?_
                refine awl_skip rfl rfl ?_
                refine awl_val hτ rfl rfl rfl ?_
                refine awl_nil ?_
                refine aw_weak (weak_ofP [0, 1, 2, 3] (l := [(1, .d (.sl false (more_.map eIntu8))), (5, .ptr 0 0), (6, .d (.int .i64 (x126.Feeder.Buses.length : Int))), (7, .d (.int .i64 (w64 ((1 : Int) + x130)))), (8, .row 3 v484.length 0 v484.length), (9, .d (.int .i64 v485)), (82, .d (.bool false))]) (objs := [.box [.d (.cx .f32 x126.Feeder.Source.A.re x126.Feeder.Source.A.im), .d (.cx .f32 x126.Feeder.Source.B.re x126.Feeder.Source.B.im), .d (.cx .f32 x126.Feeder.Source.C.re x126.Feeder.Source.C.im), .row 1 x126.Feeder.Buses.length 0 x126.Feeder.Buses.length, .row 2 x126.Ties.length 0 x126.Ties.length], .row 8 (x126.Feeder.Buses.map eSBus), .row 5 (x126.Ties.map eSTie), .row 1 (v484.map eInti64)]) rfl (by simp) rfl (by repeat' first | exact trivial | refine ⟨?_, ?_⟩) ⟨rfl, trivial, rfl, trivial, rfl, trivial, rfl, trivial, rfl, trivial, rfl, trivial, rfl, trivial, trivial⟩) ?_
                exact hk518 false h
        · have h := if_f h hc498
          refine aw_exit ?_
          refine aw_weak (weak_ofP [0, 1, 2, 3] (l := [(5, .ptr 0 0), (6, .d (.int .i64 (x126.Feeder.Buses.length : Int))), (7, .d (.int .i64 (w64 ((1 : Int) + x130)))), (8, .row 3 v484.length 0 v484.length)]) (objs := [.box [.d (.cx .f32 x126.Feeder.Source.A.re x126.Feeder.Source.A.im), .d (.cx .f32 x126.Feeder.Source.B.re x126.Feeder.Source.B.im), .d (.cx .f32 x126.Feeder.Source.C.re x126.Feeder.Source.C.im), .row 1 x126.Feeder.Buses.length 0 x126.Feeder.Buses.length, .row 2 x126.Ties.length 0 x126.Ties.length], .row 8 (x126.Feeder.Buses.map eSBus), .row 5 (x126.Ties.map eSTie), .row 1 (v484.map eInti64)]) rfl (by simp) rfl (by repeat' first | exact trivial | refine ⟨?_, ?_⟩) ⟨rfl, trivial, rfl, trivial, rfl, trivial, rfl, trivial, trivial⟩) ?_
          exact hk475 v484 h
theorem laws_FnLit_ok (n : Nat) (code_ : List Int) (more_ : List Int) {r : Bool} (h : m_laws_FnLit n code_ more_ = some r) : ACall prog false 3 [.d (.sl false (code_.map eIntu8)), .d (.sl false (more_.map eIntu8))] [] (fun v o new => v = .d (.bool r) ∧ o = [] ∧ new = []) := laws_FnLit_ok_fr0 false n code_ more_ h
theorem laws_FnLit_ok_fr (n : Nat) (code_ : List Int) (more_ : List Int) {r : Bool} (h : m_laws_FnLit n code_ more_ = some r) : ACall prog true 3 [.d (.sl false (code_.map eIntu8)), .d (.sl false (more_.map eIntu8))] [] (fun v o new => v = .d (.bool r) ∧ o = [] ∧ new = []) := laws_FnLit_ok_fr0 true n code_ more_ h

end Go.Proofs.YtkagbffdmppbhaaDoor.AWN
