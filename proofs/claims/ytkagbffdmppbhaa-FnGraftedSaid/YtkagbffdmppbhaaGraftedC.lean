/- Models and contracts, printed by program. -/
import Derived.Test.YtkagbffdmppbhaaGraftedB
set_option linter.unusedVariables false
set_option linter.unusedSimpArgs false
set_option maxHeartbeats 2000000
namespace Go.Proofs.Ytkagbffdmppbhaa.AWN
open Go Go.Proofs.Try

def m_laws_FnGrafted_j2 (n : Nat) (x60 : SFeeder) (x64 : Int) (x65 : SFeeder × Bool) (x66 : SFeeder × Bool) (x67 : List Int × Bool) (v83 : SFeeder) (v84 : Bool) : Option Bool :=
  (m_impl_CustomersBelow n (SFeeder.mk x60.Source x60.Buses)).bind fun x85 =>
  (m_impl_CustomersBelow n v83).bind fun x86 =>
  (m_impl_PathImpedance n (SFeeder.mk x60.Source x60.Buses) (w64 ((1 : Int) + x64))).bind fun x87 =>
  (m_impl_PathImpedance n v83 (x65.1.Buses.length : Int)).bind fun x88 =>
  if x65.2 = true then
    if x66.2 = true then
      if x67.2 = true then
        if v84 = true then
          if x85.2 = true then
            if x86.2 = true then
              if x87.2.2 = true then
                if x88.2.2 = true then
                  (m_impl_ValidFeeder n v83).bind fun x97 =>
                  if x97 = true then
                    if (w64 ((x65.1.Buses.length : Int) + (x66.1.Buses.length : Int))) = (x60.Buses.length : Int) then
                      if (x66.1.Buses.length : Int) = (x67.1.length : Int) then
                        (getI x85.1 (0 : Int)).bind fun x101 =>
                        (getI x86.1 (0 : Int)).bind fun x102 =>
                        if x101 = x102 then
                          (m_impl_SameComplex n x87.1 x88.1).bind fun x104 =>
                          if x104 = true then
                            (m_impl_SameComplex n x87.2.1 x88.2.1).bind fun x106 =>
                            some x106
                          else
                            some false
                        else
                          some false
                      else
                        some false
                    else
                      some false
                  else
                    some false
                else
                  some false
              else
                some false
            else
              some false
          else
            some false
        else
          some false
      else
        some false
    else
      some false
  else
    some false
def m_laws_FnGrafted_j1 (n : Nat) (x60 : SFeeder) (x64 : Int) (x65 : SFeeder × Bool) (x66 : SFeeder × Bool) (x67 : List Int × Bool) (v77 : Int) : Option Bool :=
  (getI x60.Buses (w64 ((1 : Int) + x64))).bind fun x109 =>
  (m_impl_GraftFeeder n x65.1 v77 x66.1 x109.Own x109.Shared).bind fun x110 =>
  m_laws_FnGrafted_j2 n x60 x64 x65 x66 x67 x110.1 x110.2
def m_laws_FnGrafted_j4 (n : Nat) (k121 : Int → Int → Option Bool) (v115 : Int) (v125 : Int) : Option Bool :=
  k121 v125 (w64 (v115 + (1 : Int)))
def m_laws_FnGrafted_l3 (n : Nat) (x60 : SFeeder) (x64 : Int) (x65 : SFeeder × Bool) (x66 : SFeeder × Bool) (x67 : List Int × Bool) (x68 : SBus) : Nat → Int → Int → Option Bool
  | 0, _, _ => none
  | m120 + 1, v114, v115 =>
    if v115 < x68.Parent then
      (m_laws_r8In n x67.1 v115).bind fun x127 =>
      if x127 = true then
        m_laws_FnGrafted_j4 n (m_laws_FnGrafted_l3 n x60 x64 x65 x66 x67 x68 m120) v115 v114
      else
        m_laws_FnGrafted_j4 n (m_laws_FnGrafted_l3 n x60 x64 x65 x66 x67 x68 m120) v115 (w64 (v114 + (1 : Int)))
    else
      m_laws_FnGrafted_j1 n x60 x64 x65 x66 x67 v114
def m_laws_FnGrafted (n : Nat) (code_ : List Int) (more_ : List Int) : Option Bool :=
  (m_laws_r8Long n code_ more_).bind fun x58 =>
  if x58 = true then
    some true
  else
    (m_spec_R8Wild n code_).bind fun x60 =>
    if (x60.Buses.length : Int) < (2 : Int) then
      (m_impl_CutFeeder n (SFeeder.mk x60.Source x60.Buses) (0 : Int)).bind fun x63 =>
      some (!x63.2)
    else
      (m_laws_r8At n more_ (0 : Int) (w64 ((x60.Buses.length : Int) - (1 : Int)))).bind fun x64 =>
      (m_impl_CutFeeder n (SFeeder.mk x60.Source x60.Buses) (w64 ((1 : Int) + x64))).bind fun x65 =>
      (m_impl_PartFeeder n (SFeeder.mk x60.Source x60.Buses) (w64 ((1 : Int) + x64)) x60.Source).bind fun x66 =>
      (m_impl_BusesBelow n (SFeeder.mk x60.Source x60.Buses) (w64 ((1 : Int) + x64))).bind fun x67 =>
      (getI x60.Buses (w64 ((1 : Int) + x64))).bind fun x68 =>
      m_laws_FnGrafted_l3 n x60 x64 x65 x66 x67 x68 n (0 : Int) (0 : Int)
theorem laws_FnGrafted_ok_fr0 (fr : Bool) (n : Nat) (code_ : List Int) (more_ : List Int) {r : Bool} (h : m_laws_FnGrafted n code_ more_ = some r) : ACall prog fr 4 [.d (.sl false (code_.map eIntu8)), .d (.sl false (more_.map eIntu8))] [] (fun v o new => v = .d (.bool r) ∧ o = [] ∧ new = []) := by
  refine acall_of_aw hτ func4 rfl (by simp) (by simp) ?_
  unfold m_laws_FnGrafted at h
  refine aw_seq ?_
  refine aw_region ?_
  refine awl_val hτ rfl rfl rfl ?_
  refine awl_nil ?_
  refine aw_seq ?_
  refine aw_seq ?_
  refine aw_region ?_
  refine awl_val hτ rfl rfl rfl ?_
  refine awl_val hτ rfl rfl rfl ?_
  refine bnd_elim h fun x58 hx58 h => ?_
  refine awl_callP hτ false [] rfl rfl rfl (enterOk func12 rfl rfl) rfl rfl (by simp) ⟨trivial, trivial, trivial⟩ (by repeat' first | exact trivial | refine ⟨?_, ?_⟩) (laws_r8Long_ok n code_ more_ hx58) ?_
  rintro r0 o0 n0 ⟨rfl, rfl, rfl⟩ -
  refine awl_nil ?_
  refine aw_cond rfl (fun hc59 => ?_) (fun hc59 => ?_)
  · have h := if_bt h hc59
    refine aw_seq ?_
    refine aw_region ?_
    refine awl_val hτ rfl rfl rfl ?_
    refine awl_nil ?_
    refine aw_weak (weak_ofP [] (l := [(4, .d (.bool true))]) (objs := []) rfl (by simp) rfl (by repeat' first | exact trivial | refine ⟨?_, ?_⟩) ⟨rfl, trivial, trivial⟩) ?_
    refine aw_ret ?_
    have hr := Option.some.inj h
    subst hr
    exact ret_objs (.inr rfl) [] (objs' := []) (new := []) rfl (by simp) (by simp) rfl (by repeat' first | exact trivial | refine ⟨?_, ?_⟩) rfl rfl (by repeat' first | exact trivial | refine ⟨?_, ?_⟩) (fun _ => ⟨by simp [V.flat, V.flatA, V.flatC, D.flat], flat_nil⟩) ⟨rfl, rfl, rfl⟩
  · have h := if_bf h hc59
    refine aw_skip ?_
    refine aw_seq ?_
    refine aw_region ?_
    refine awl_val hτ rfl rfl rfl ?_
    refine bnd_elim h fun x60 hx60 h => ?_
    refine awl_callP hτ false [] rfl rfl rfl (enterOk func13 rfl rfl) rfl rfl (by simp) ⟨trivial, trivial⟩ (by repeat' first | exact trivial | refine ⟨?_, ?_⟩) (spec_R8Wild_ok n code_ hx60) ?_
    rintro r0 o0 n0 ⟨rfl, rfl, rfl⟩ -
    refine awl_valH hτ rfl rfl rfl ?_
    refine awl_valH hτ rfl rfl rfl ?_
    refine awl_nil ?_
    refine aw_seq ?_
    refine aw_weak (weak_ofP [1, 0] (l := [(1, .d (.sl false (more_.map eIntu8))), (5, .ptr 0 0)]) (objs := [.box [.d (.cx .f32 x60.Source.A.re x60.Source.A.im), .d (.cx .f32 x60.Source.B.re x60.Source.B.im), .d (.cx .f32 x60.Source.C.re x60.Source.C.im), .row 1 x60.Buses.length 0 x60.Buses.length], .row 8 (x60.Buses.map eSBus)]) rfl (by simp) rfl (by repeat' first | exact trivial | refine ⟨?_, ?_⟩) ⟨rfl, trivial, rfl, trivial, trivial⟩) ?_
    refine aw_region ?_
    refine awl_val hτ rfl rfl rfl ?_
    refine awl_val hτ rfl rfl rfl ?_
    refine awl_need hτ rfl rfl rfl (len_map _) ?_
    refine awl_val hτ rfl rfl rfl ?_
    refine awl_nil ?_
    refine aw_seq ?_
    refine aw_seq ?_
    refine aw_region ?_
    refine awl_val hτ rfl rfl rfl ?_
    refine awl_val hτ rfl rfl rfl ?_
    refine awl_nil ?_
    refine aw_weak (weak_ofP [0, 1] (l := [(1, .d (.sl false (more_.map eIntu8))), (5, .ptr 0 0), (6, .d (.int .i64 (x60.Buses.length : Int))), (40, .d (.bool (decide ((x60.Buses.length : Int) < (2 : Int)))))]) (objs := [.box [.d (.cx .f32 x60.Source.A.re x60.Source.A.im), .d (.cx .f32 x60.Source.B.re x60.Source.B.im), .d (.cx .f32 x60.Source.C.re x60.Source.C.im), .row 1 x60.Buses.length 0 x60.Buses.length], .row 8 (x60.Buses.map eSBus)]) rfl (by simp) rfl (by repeat' first | exact trivial | refine ⟨?_, ?_⟩) ⟨rfl, trivial, rfl, trivial, rfl, trivial, rfl, trivial, trivial⟩) ?_
    refine aw_cond rfl (fun hc62 => ?_) (fun hc62 => ?_)
    · have h := if_t h hc62
      refine aw_seq ?_
      refine aw_region ?_
      refine awl_val hτ rfl rfl rfl ?_
      refine awl_weak (weak_ofP [1] (l := [(42, .agg [.d (.cx .f32 x60.Source.A.re x60.Source.A.im), .d (.cx .f32 x60.Source.B.re x60.Source.B.im), .d (.cx .f32 x60.Source.C.re x60.Source.C.im), .row 0 x60.Buses.length 0 x60.Buses.length])]) (objs := [.row 8 (x60.Buses.map eSBus)]) rfl (by simp) rfl (by repeat' first | exact trivial | refine ⟨?_, ?_⟩) ⟨rfl, (by repeat' first | exact trivial | refine ⟨?_, ?_⟩), trivial⟩) ?_
      refine bnd_elim h fun x63 hx63 h => ?_
      refine awl_callP hτ true [] rfl rfl rfl (enterOk func22 rfl rfl) (mapO_cons (exV_agg (mapO_cons rfl (mapO_cons rfl (mapO_cons rfl (mapO_cons (exC_view (f := eSBus) x60.Buses rfl rfl rfl) mapO_nil))))) (mapO_cons rfl mapO_nil)) rfl (by simp) ⟨⟨trivial, trivial, trivial, (exP_view (f := eSBus) x60.Buses rfl rfl rfl)⟩, trivial, trivial⟩ (by repeat' first | exact trivial | refine ⟨?_, ?_⟩) (impl_CutFeeder_ok_fr n (SFeeder.mk x60.Source x60.Buses) (0 : Int) hx63) ?_
      rintro r0 o0 n0 ⟨rfl, rfl, rfl⟩ -
      refine awl_val hτ rfl rfl rfl ?_
      refine awl_val hτ rfl rfl rfl ?_
      refine awl_val hτ rfl rfl rfl ?_
      refine awl_valH hτ rfl rfl rfl ?_
      refine awl_valH hτ rfl rfl rfl ?_
      refine awl_val hτ rfl rfl rfl ?_
      refine awl_nil ?_
      refine aw_seq ?_
      refine aw_weak (weak_ofP [] (l := [(8, .d (.bool x63.2))]) (objs := []) rfl (by simp) rfl (by repeat' first | exact trivial | refine ⟨?_, ?_⟩) ⟨rfl, trivial, trivial⟩) ?_
      refine aw_region ?_
      refine awl_val hτ rfl rfl rfl ?_
      refine awl_val hτ rfl rfl rfl ?_
      refine awl_val hτ rfl rfl rfl ?_
      refine awl_nil ?_
      refine aw_weak (weak_ofP [] (l := [(4, .d (.bool (!x63.2)))]) (objs := []) rfl (by simp) rfl (by repeat' first | exact trivial | refine ⟨?_, ?_⟩) ⟨rfl, trivial, trivial⟩) ?_
      refine aw_ret ?_
      have hr := Option.some.inj h
      subst hr
      exact ret_objs (.inr rfl) [] (objs' := []) (new := []) rfl (by simp) (by simp) rfl (by repeat' first | exact trivial | refine ⟨?_, ?_⟩) rfl rfl (by repeat' first | exact trivial | refine ⟨?_, ?_⟩) (fun _ => ⟨by simp [V.flat, V.flatA, V.flatC, D.flat], flat_nil⟩) ⟨rfl, rfl, rfl⟩
    · have h := if_f h hc62
      refine aw_skip ?_
      refine aw_seq ?_
      refine aw_region ?_
      refine awl_val hτ rfl rfl rfl ?_
      refine awl_val hτ rfl rfl rfl ?_
      refine awl_val hτ rfl rfl rfl ?_
      refine bnd_elim h fun x64 hx64 h => ?_
      refine awl_callP hτ false [] rfl rfl rfl (enterOk func14 rfl rfl) rfl rfl (by simp) ⟨trivial, trivial, trivial, trivial⟩ (by repeat' first | exact trivial | refine ⟨?_, ?_⟩) (laws_r8At_ok n more_ (0 : Int) (w64 ((x60.Buses.length : Int) - (1 : Int))) hx64) ?_
      rintro r0 o0 n0 ⟨rfl, rfl, rfl⟩ -
      refine awl_val hτ rfl rfl rfl ?_
      refine awl_val hτ rfl rfl rfl ?_
      refine awl_nil ?_
      refine aw_seq ?_
      refine aw_weak (weak_ofP [0, 1] (l := [(5, .ptr 0 0), (6, .d (.int .i64 (x60.Buses.length : Int))), (9, .d (.int .i64 (w64 ((1 : Int) + x64))))]) (objs := [.box [.d (.cx .f32 x60.Source.A.re x60.Source.A.im), .d (.cx .f32 x60.Source.B.re x60.Source.B.im), .d (.cx .f32 x60.Source.C.re x60.Source.C.im), .row 1 x60.Buses.length 0 x60.Buses.length], .row 8 (x60.Buses.map eSBus)]) rfl (by simp) rfl (by repeat' first | exact trivial | refine ⟨?_, ?_⟩) ⟨rfl, trivial, rfl, trivial, rfl, trivial, trivial⟩) ?_
      refine aw_region ?_
      refine awl_val hτ rfl rfl rfl ?_
      refine awl_val hτ rfl rfl rfl ?_
      refine awl_weak (weak_ofP [0, 1] (l := [(5, .ptr 0 0), (6, .d (.int .i64 (x60.Buses.length : Int))), (9, .d (.int .i64 (w64 ((1 : Int) + x64)))), (54, .agg [.d (.cx .f32 x60.Source.A.re x60.Source.A.im), .d (.cx .f32 x60.Source.B.re x60.Source.B.im), .d (.cx .f32 x60.Source.C.re x60.Source.C.im), .row 1 x60.Buses.length 0 x60.Buses.length]), (55, .d (.int .i64 (w64 ((1 : Int) + x64))))]) (objs := [.box [.d (.cx .f32 x60.Source.A.re x60.Source.A.im), .d (.cx .f32 x60.Source.B.re x60.Source.B.im), .d (.cx .f32 x60.Source.C.re x60.Source.C.im), .row 1 x60.Buses.length 0 x60.Buses.length], .row 8 (x60.Buses.map eSBus)]) rfl (by simp) rfl (by repeat' first | exact trivial | refine ⟨?_, ?_⟩) ⟨rfl, trivial, rfl, trivial, rfl, trivial, rfl, (by repeat' first | exact trivial | refine ⟨?_, ?_⟩), rfl, trivial, trivial⟩) ?_
      refine bnd_elim h fun x65 hx65 h => ?_
      refine awl_callP hτ true [] rfl rfl rfl (enterOk func22 rfl rfl) (mapO_cons (exV_agg (mapO_cons rfl (mapO_cons rfl (mapO_cons rfl (mapO_cons (exC_view (f := eSBus) x60.Buses rfl rfl rfl) mapO_nil))))) (mapO_cons rfl mapO_nil)) rfl (by simp) ⟨⟨trivial, trivial, trivial, (exP_view (f := eSBus) x60.Buses rfl rfl rfl)⟩, trivial, trivial⟩ (by repeat' first | exact trivial | refine ⟨?_, ?_⟩) (impl_CutFeeder_ok_fr n (SFeeder.mk x60.Source x60.Buses) (w64 ((1 : Int) + x64)) hx65) ?_
      rintro r0 o0 n0 ⟨rfl, rfl, rfl⟩ -
      refine awl_val hτ rfl rfl rfl ?_
      refine awl_val hτ rfl rfl rfl ?_
      refine awl_val hτ rfl rfl rfl ?_
      refine awl_valH hτ rfl rfl rfl ?_
      refine awl_valH hτ rfl rfl rfl ?_
      refine awl_val hτ rfl rfl rfl ?_
      refine awl_nil ?_
      refine aw_seq ?_
      refine aw_weak (weak_ofP [0, 1, 3, 2] (l := [(5, .ptr 0 0), (6, .d (.int .i64 (x60.Buses.length : Int))), (9, .d (.int .i64 (w64 ((1 : Int) + x64)))), (10, .ptr 2 0), (11, .d (.bool x65.2))]) (objs := [.box [.d (.cx .f32 x60.Source.A.re x60.Source.A.im), .d (.cx .f32 x60.Source.B.re x60.Source.B.im), .d (.cx .f32 x60.Source.C.re x60.Source.C.im), .row 1 x60.Buses.length 0 x60.Buses.length], .row 8 (x60.Buses.map eSBus), .box [.d (.cx .f32 x65.1.Source.A.re x65.1.Source.A.im), .d (.cx .f32 x65.1.Source.B.re x65.1.Source.B.im), .d (.cx .f32 x65.1.Source.C.re x65.1.Source.C.im), .row 3 x65.1.Buses.length 0 x65.1.Buses.length], .row 8 (x65.1.Buses.map eSBus)]) rfl (by simp) rfl (by repeat' first | exact trivial | refine ⟨?_, ?_⟩) ⟨rfl, trivial, rfl, trivial, rfl, trivial, rfl, trivial, rfl, trivial, trivial⟩) ?_
      refine aw_region ?_
      refine awl_val hτ rfl rfl rfl ?_
      refine awl_val hτ rfl rfl rfl ?_
      refine awl_val hτ rfl rfl rfl ?_
      refine awl_val hτ rfl rfl rfl ?_
      refine awl_weak (weak_ofP [0, 1, 2, 3] (l := [(5, .ptr 0 0), (6, .d (.int .i64 (x60.Buses.length : Int))), (9, .d (.int .i64 (w64 ((1 : Int) + x64)))), (10, .ptr 2 0), (11, .d (.bool x65.2)), (60, .agg [.d (.cx .f32 x60.Source.A.re x60.Source.A.im), .d (.cx .f32 x60.Source.B.re x60.Source.B.im), .d (.cx .f32 x60.Source.C.re x60.Source.C.im), .row 1 x60.Buses.length 0 x60.Buses.length]), (61, .d (.int .i64 (w64 ((1 : Int) + x64)))), (63, .agg [.d (.cx .f32 x60.Source.A.re x60.Source.A.im), .d (.cx .f32 x60.Source.B.re x60.Source.B.im), .d (.cx .f32 x60.Source.C.re x60.Source.C.im)])]) (objs := [.box [.d (.cx .f32 x60.Source.A.re x60.Source.A.im), .d (.cx .f32 x60.Source.B.re x60.Source.B.im), .d (.cx .f32 x60.Source.C.re x60.Source.C.im), .row 1 x60.Buses.length 0 x60.Buses.length], .row 8 (x60.Buses.map eSBus), .box [.d (.cx .f32 x65.1.Source.A.re x65.1.Source.A.im), .d (.cx .f32 x65.1.Source.B.re x65.1.Source.B.im), .d (.cx .f32 x65.1.Source.C.re x65.1.Source.C.im), .row 3 x65.1.Buses.length 0 x65.1.Buses.length], .row 8 (x65.1.Buses.map eSBus)]) rfl (by simp) rfl (by repeat' first | exact trivial | refine ⟨?_, ?_⟩) ⟨rfl, trivial, rfl, trivial, rfl, trivial, rfl, trivial, rfl, trivial, rfl, (by repeat' first | exact trivial | refine ⟨?_, ?_⟩), rfl, trivial, rfl, (by repeat' first | exact trivial | refine ⟨?_, ?_⟩), trivial⟩) ?_
      refine bnd_elim h fun x66 hx66 h => ?_
      refine awl_callP hτ true [] rfl rfl rfl (enterOk func23 rfl rfl) (mapO_cons (exV_agg (mapO_cons rfl (mapO_cons rfl (mapO_cons rfl (mapO_cons (exC_view (f := eSBus) x60.Buses rfl rfl rfl) mapO_nil))))) (mapO_cons rfl (mapO_cons rfl mapO_nil))) rfl (by simp) ⟨⟨trivial, trivial, trivial, (exP_view (f := eSBus) x60.Buses rfl rfl rfl)⟩, trivial, (by repeat' first | exact trivial | refine ⟨?_, ?_⟩), trivial⟩ (by repeat' first | exact trivial | refine ⟨?_, ?_⟩) (impl_PartFeeder_ok_fr n (SFeeder.mk x60.Source x60.Buses) (w64 ((1 : Int) + x64)) x60.Source hx66) ?_
      rintro r0 o0 n0 ⟨rfl, rfl, rfl⟩ -
      refine awl_val hτ rfl rfl rfl ?_
      refine awl_val hτ rfl rfl rfl ?_
      refine awl_val hτ rfl rfl rfl ?_
      refine awl_valH hτ rfl rfl rfl ?_
      refine awl_valH hτ rfl rfl rfl ?_
      refine awl_val hτ rfl rfl rfl ?_
      refine awl_nil ?_
      refine aw_seq ?_
      refine aw_weak (weak_ofP [0, 1, 2, 3, 5, 4] (l := [(5, .ptr 0 0), (6, .d (.int .i64 (x60.Buses.length : Int))), (9, .d (.int .i64 (w64 ((1 : Int) + x64)))), (10, .ptr 2 0), (11, .d (.bool x65.2)), (12, .ptr 4 0), (13, .d (.bool x66.2))]) (objs := [.box [.d (.cx .f32 x60.Source.A.re x60.Source.A.im), .d (.cx .f32 x60.Source.B.re x60.Source.B.im), .d (.cx .f32 x60.Source.C.re x60.Source.C.im), .row 1 x60.Buses.length 0 x60.Buses.length], .row 8 (x60.Buses.map eSBus), .box [.d (.cx .f32 x65.1.Source.A.re x65.1.Source.A.im), .d (.cx .f32 x65.1.Source.B.re x65.1.Source.B.im), .d (.cx .f32 x65.1.Source.C.re x65.1.Source.C.im), .row 3 x65.1.Buses.length 0 x65.1.Buses.length], .row 8 (x65.1.Buses.map eSBus), .box [.d (.cx .f32 x66.1.Source.A.re x66.1.Source.A.im), .d (.cx .f32 x66.1.Source.B.re x66.1.Source.B.im), .d (.cx .f32 x66.1.Source.C.re x66.1.Source.C.im), .row 5 x66.1.Buses.length 0 x66.1.Buses.length], .row 8 (x66.1.Buses.map eSBus)]) rfl (by simp) rfl (by repeat' first | exact trivial | refine ⟨?_, ?_⟩) ⟨rfl, trivial, rfl, trivial, rfl, trivial, rfl, trivial, rfl, trivial, rfl, trivial, rfl, trivial, trivial⟩) ?_
      refine aw_region ?_
      refine awl_val hτ rfl rfl rfl ?_
      refine awl_val hτ rfl rfl rfl ?_
      refine awl_weak (weak_ofP [0, 1, 2, 3, 4, 5] (l := [(5, .ptr 0 0), (6, .d (.int .i64 (x60.Buses.length : Int))), (9, .d (.int .i64 (w64 ((1 : Int) + x64)))), (10, .ptr 2 0), (11, .d (.bool x65.2)), (12, .ptr 4 0), (13, .d (.bool x66.2)), (68, .agg [.d (.cx .f32 x60.Source.A.re x60.Source.A.im), .d (.cx .f32 x60.Source.B.re x60.Source.B.im), .d (.cx .f32 x60.Source.C.re x60.Source.C.im), .row 1 x60.Buses.length 0 x60.Buses.length]), (69, .d (.int .i64 (w64 ((1 : Int) + x64))))]) (objs := [.box [.d (.cx .f32 x60.Source.A.re x60.Source.A.im), .d (.cx .f32 x60.Source.B.re x60.Source.B.im), .d (.cx .f32 x60.Source.C.re x60.Source.C.im), .row 1 x60.Buses.length 0 x60.Buses.length], .row 8 (x60.Buses.map eSBus), .box [.d (.cx .f32 x65.1.Source.A.re x65.1.Source.A.im), .d (.cx .f32 x65.1.Source.B.re x65.1.Source.B.im), .d (.cx .f32 x65.1.Source.C.re x65.1.Source.C.im), .row 3 x65.1.Buses.length 0 x65.1.Buses.length], .row 8 (x65.1.Buses.map eSBus), .box [.d (.cx .f32 x66.1.Source.A.re x66.1.Source.A.im), .d (.cx .f32 x66.1.Source.B.re x66.1.Source.B.im), .d (.cx .f32 x66.1.Source.C.re x66.1.Source.C.im), .row 5 x66.1.Buses.length 0 x66.1.Buses.length], .row 8 (x66.1.Buses.map eSBus)]) rfl (by simp) rfl (by repeat' first | exact trivial | refine ⟨?_, ?_⟩) ⟨rfl, trivial, rfl, trivial, rfl, trivial, rfl, trivial, rfl, trivial, rfl, trivial, rfl, trivial, rfl, (by repeat' first | exact trivial | refine ⟨?_, ?_⟩), rfl, trivial, trivial⟩) ?_
      refine bnd_elim h fun x67 hx67 h => ?_
      refine awl_callP hτ true [] rfl rfl rfl (enterOk func16 rfl rfl) (mapO_cons (exV_agg (mapO_cons rfl (mapO_cons rfl (mapO_cons rfl (mapO_cons (exC_view (f := eSBus) x60.Buses rfl rfl rfl) mapO_nil))))) (mapO_cons rfl mapO_nil)) rfl (by simp) ⟨⟨trivial, trivial, trivial, (exP_view (f := eSBus) x60.Buses rfl rfl rfl)⟩, trivial, trivial⟩ (by repeat' first | exact trivial | refine ⟨?_, ?_⟩) (impl_BusesBelow_ok_fr n (SFeeder.mk x60.Source x60.Buses) (w64 ((1 : Int) + x64)) hx67) ?_
      rintro r0 o0 n0 ⟨rfl, rfl, rfl⟩ -
      refine awl_val hτ rfl rfl rfl ?_
      refine awl_val hτ rfl rfl rfl ?_
      refine awl_val hτ rfl rfl rfl ?_
      refine awl_val hτ rfl rfl rfl ?_
      refine awl_val hτ rfl rfl rfl ?_
      refine awl_nil ?_
      refine aw_seq ?_
      refine aw_weak (weak_ofP [0, 1, 2, 3, 4, 5, 6] (l := [(5, .ptr 0 0), (6, .d (.int .i64 (x60.Buses.length : Int))), (9, .d (.int .i64 (w64 ((1 : Int) + x64)))), (10, .ptr 2 0), (11, .d (.bool x65.2)), (12, .ptr 4 0), (13, .d (.bool x66.2)), (14, .row 6 x67.1.length 0 x67.1.length), (15, .d (.bool x67.2))]) (objs := [.box [.d (.cx .f32 x60.Source.A.re x60.Source.A.im), .d (.cx .f32 x60.Source.B.re x60.Source.B.im), .d (.cx .f32 x60.Source.C.re x60.Source.C.im), .row 1 x60.Buses.length 0 x60.Buses.length], .row 8 (x60.Buses.map eSBus), .box [.d (.cx .f32 x65.1.Source.A.re x65.1.Source.A.im), .d (.cx .f32 x65.1.Source.B.re x65.1.Source.B.im), .d (.cx .f32 x65.1.Source.C.re x65.1.Source.C.im), .row 3 x65.1.Buses.length 0 x65.1.Buses.length], .row 8 (x65.1.Buses.map eSBus), .box [.d (.cx .f32 x66.1.Source.A.re x66.1.Source.A.im), .d (.cx .f32 x66.1.Source.B.re x66.1.Source.B.im), .d (.cx .f32 x66.1.Source.C.re x66.1.Source.C.im), .row 5 x66.1.Buses.length 0 x66.1.Buses.length], .row 8 (x66.1.Buses.map eSBus), .row 1 (x67.1.map eInti64)]) rfl (by simp) rfl (by repeat' first | exact trivial | refine ⟨?_, ?_⟩) ⟨rfl, trivial, rfl, trivial, rfl, trivial, rfl, trivial, rfl, trivial, rfl, trivial, rfl, trivial, rfl, trivial, rfl, trivial, trivial⟩) ?_
      refine aw_region ?_
      refine awl_val hτ rfl rfl rfl ?_
      refine awl_val hτ rfl rfl rfl ?_
      refine awl_val hτ rfl rfl rfl ?_
      refine bnd_elim h fun x68 hx68 h => ?_
      refine awl_need hτ rfl rfl rfl (row_need hx68) ?_
      refine awl_need hτ rfl rfl rfl (len_map _) ?_
      refine awl_elem hτ rfl rfl rfl (len_map _) (row_get hx68) rfl ?_
      refine awl_val hτ rfl rfl rfl ?_
      refine awl_nil ?_
      refine aw_seq ?_
      refine aw_weak (weak_ofP [0, 1, 2, 3, 4, 5, 6] (l := [(5, .ptr 0 0), (6, .d (.int .i64 (x60.Buses.length : Int))), (9, .d (.int .i64 (w64 ((1 : Int) + x64)))), (10, .ptr 2 0), (11, .d (.bool x65.2)), (12, .ptr 4 0), (13, .d (.bool x66.2)), (14, .row 6 x67.1.length 0 x67.1.length), (15, .d (.bool x67.2)), (16, .d (.int .i64 x68.Parent))]) (objs := [.box [.d (.cx .f32 x60.Source.A.re x60.Source.A.im), .d (.cx .f32 x60.Source.B.re x60.Source.B.im), .d (.cx .f32 x60.Source.C.re x60.Source.C.im), .row 1 x60.Buses.length 0 x60.Buses.length], .row 8 (x60.Buses.map eSBus), .box [.d (.cx .f32 x65.1.Source.A.re x65.1.Source.A.im), .d (.cx .f32 x65.1.Source.B.re x65.1.Source.B.im), .d (.cx .f32 x65.1.Source.C.re x65.1.Source.C.im), .row 3 x65.1.Buses.length 0 x65.1.Buses.length], .row 8 (x65.1.Buses.map eSBus), .box [.d (.cx .f32 x66.1.Source.A.re x66.1.Source.A.im), .d (.cx .f32 x66.1.Source.B.re x66.1.Source.B.im), .d (.cx .f32 x66.1.Source.C.re x66.1.Source.C.im), .row 5 x66.1.Buses.length 0 x66.1.Buses.length], .row 8 (x66.1.Buses.map eSBus), .row 1 (x67.1.map eInti64)]) rfl (by simp) rfl (by repeat' first | exact trivial | refine ⟨?_, ?_⟩) ⟨rfl, trivial, rfl, trivial, rfl, trivial, rfl, trivial, rfl, trivial, rfl, trivial, rfl, trivial, rfl, trivial, rfl, trivial, rfl, trivial, trivial⟩) ?_
      refine aw_region ?_
      refine awl_val hτ rfl rfl rfl ?_
      refine awl_nil ?_
      refine aw_hk1 (ι := Int) (fun v77 => St.of [(5, .ptr 0 0), (6, .d (.int .i64 (x60.Buses.length : Int))), (9, .d (.int .i64 (w64 ((1 : Int) + x64)))), (10, .ptr 2 0), (11, .d (.bool x65.2)), (12, .ptr 4 0), (13, .d (.bool x66.2)), (14, .row 6 x67.1.length 0 x67.1.length), (15, .d (.bool x67.2)), (17, .d (.int .i64 v77))] [.box [.d (.cx .f32 x60.Source.A.re x60.Source.A.im), .d (.cx .f32 x60.Source.B.re x60.Source.B.im), .d (.cx .f32 x60.Source.C.re x60.Source.C.im), .row 1 x60.Buses.length 0 x60.Buses.length], .row 8 (x60.Buses.map eSBus), .box [.d (.cx .f32 x65.1.Source.A.re x65.1.Source.A.im), .d (.cx .f32 x65.1.Source.B.re x65.1.Source.B.im), .d (.cx .f32 x65.1.Source.C.re x65.1.Source.C.im), .row 3 x65.1.Buses.length 0 x65.1.Buses.length], .row 8 (x65.1.Buses.map eSBus), .box [.d (.cx .f32 x66.1.Source.A.re x66.1.Source.A.im), .d (.cx .f32 x66.1.Source.B.re x66.1.Source.B.im), .d (.cx .f32 x66.1.Source.C.re x66.1.Source.C.im), .row 5 x66.1.Buses.length 0 x66.1.Buses.length], .row 8 (x66.1.Buses.map eSBus), .row 1 (x67.1.map eInti64)] f4.ntmps 0) (fun v77 => m_laws_FnGrafted_j1 n x60 x64 x65 x66 x67 v77 = some r) ?_ (fun hk111 => ?_)
      · rintro v77 h
        replace h : m_laws_FnGrafted_j1 n x60 x64 x65 x66 x67 v77 = some r := h
        unfold m_laws_FnGrafted_j1 at h
        refine aw_hk1 (ι := SFeeder × Bool) (fun (v83, v84) => St.of [(5, .ptr 0 0), (6, .d (.int .i64 (x60.Buses.length : Int))), (9, .d (.int .i64 (w64 ((1 : Int) + x64)))), (10, .ptr 2 0), (11, .d (.bool x65.2)), (12, .ptr 3 0), (13, .d (.bool x66.2)), (14, .row 4 x67.1.length 0 x67.1.length), (15, .d (.bool x67.2)), (19, .ptr 5 0), (20, .d (.bool v84))] [.box [.d (.cx .f32 x60.Source.A.re x60.Source.A.im), .d (.cx .f32 x60.Source.B.re x60.Source.B.im), .d (.cx .f32 x60.Source.C.re x60.Source.C.im), .row 1 x60.Buses.length 0 x60.Buses.length], .row 8 (x60.Buses.map eSBus), .box [.d (.cx .f32 x65.1.Source.A.re x65.1.Source.A.im), .d (.cx .f32 x65.1.Source.B.re x65.1.Source.B.im), .d (.cx .f32 x65.1.Source.C.re x65.1.Source.C.im), .d (.sl false (x65.1.Buses.map eSBus))], .box [.d (.cx .f32 x66.1.Source.A.re x66.1.Source.A.im), .d (.cx .f32 x66.1.Source.B.re x66.1.Source.B.im), .d (.cx .f32 x66.1.Source.C.re x66.1.Source.C.im), .d (.sl false (x66.1.Buses.map eSBus))], .row 1 (x67.1.map eInti64), .box [.d (.cx .f32 v83.Source.A.re v83.Source.A.im), .d (.cx .f32 v83.Source.B.re v83.Source.B.im), .d (.cx .f32 v83.Source.C.re v83.Source.C.im), .d (.sl false (v83.Buses.map eSBus))]] f4.ntmps 0) (fun (v83, v84) => m_laws_FnGrafted_j2 n x60 x64 x65 x66 x67 v83 v84 = some r) ?_ (fun hk107 => ?_)
        · rintro ⟨v83, v84⟩ h
          replace h : m_laws_FnGrafted_j2 n x60 x64 x65 x66 x67 v83 v84 = some r := h
          unfold m_laws_FnGrafted_j2 at h
          refine aw_seq ?_
          refine aw_region ?_
          refine awl_val hτ rfl rfl rfl ?_
          refine awl_weak (weak_ofP [0, 1, 2, 3, 4, 5] (l := [(5, .ptr 0 0), (6, .d (.int .i64 (x60.Buses.length : Int))), (9, .d (.int .i64 (w64 ((1 : Int) + x64)))), (10, .ptr 2 0), (11, .d (.bool x65.2)), (12, .ptr 3 0), (13, .d (.bool x66.2)), (14, .row 4 x67.1.length 0 x67.1.length), (15, .d (.bool x67.2)), (19, .ptr 5 0), (20, .d (.bool v84)), (110, .agg [.d (.cx .f32 x60.Source.A.re x60.Source.A.im), .d (.cx .f32 x60.Source.B.re x60.Source.B.im), .d (.cx .f32 x60.Source.C.re x60.Source.C.im), .row 1 x60.Buses.length 0 x60.Buses.length])]) (objs := [.box [.d (.cx .f32 x60.Source.A.re x60.Source.A.im), .d (.cx .f32 x60.Source.B.re x60.Source.B.im), .d (.cx .f32 x60.Source.C.re x60.Source.C.im), .row 1 x60.Buses.length 0 x60.Buses.length], .row 8 (x60.Buses.map eSBus), .box [.d (.cx .f32 x65.1.Source.A.re x65.1.Source.A.im), .d (.cx .f32 x65.1.Source.B.re x65.1.Source.B.im), .d (.cx .f32 x65.1.Source.C.re x65.1.Source.C.im), .d (.sl false (x65.1.Buses.map eSBus))], .box [.d (.cx .f32 x66.1.Source.A.re x66.1.Source.A.im), .d (.cx .f32 x66.1.Source.B.re x66.1.Source.B.im), .d (.cx .f32 x66.1.Source.C.re x66.1.Source.C.im), .d (.sl false (x66.1.Buses.map eSBus))], .row 1 (x67.1.map eInti64), .box [.d (.cx .f32 v83.Source.A.re v83.Source.A.im), .d (.cx .f32 v83.Source.B.re v83.Source.B.im), .d (.cx .f32 v83.Source.C.re v83.Source.C.im), .d (.sl false (v83.Buses.map eSBus))]]) rfl (by simp) rfl (by repeat' first | exact trivial | refine ⟨?_, ?_⟩) ⟨rfl, trivial, rfl, trivial, rfl, trivial, rfl, trivial, rfl, trivial, rfl, trivial, rfl, trivial, rfl, trivial, rfl, trivial, rfl, trivial, rfl, trivial, rfl, (by repeat' first | exact trivial | refine ⟨?_, ?_⟩), trivial⟩) ?_
          refine bnd_elim h fun x85 hx85 h => ?_
          refine awl_callP hτ true [] rfl rfl rfl (enterOk func19 rfl rfl) (mapO_cons (exV_agg (mapO_cons rfl (mapO_cons rfl (mapO_cons rfl (mapO_cons (exC_view (f := eSBus) x60.Buses rfl rfl rfl) mapO_nil))))) mapO_nil) rfl (by simp) ⟨⟨trivial, trivial, trivial, (exP_view (f := eSBus) x60.Buses rfl rfl rfl)⟩, trivial⟩ (by repeat' first | exact trivial | refine ⟨?_, ?_⟩) (impl_CustomersBelow_ok_fr n (SFeeder.mk x60.Source x60.Buses) hx85) ?_
          rintro r0 o0 n0 ⟨rfl, rfl, rfl⟩ -
          refine awl_val hτ rfl rfl rfl ?_
          refine awl_val hτ rfl rfl rfl ?_
          refine awl_val hτ rfl rfl rfl ?_
          refine awl_val hτ rfl rfl rfl ?_
          refine awl_val hτ rfl rfl rfl ?_
          refine awl_nil ?_
          refine aw_seq ?_
          refine aw_weak (weak_ofP [0, 1, 2, 3, 4, 5, 6] (l := [(5, .ptr 0 0), (6, .d (.int .i64 (x60.Buses.length : Int))), (9, .d (.int .i64 (w64 ((1 : Int) + x64)))), (10, .ptr 2 0), (11, .d (.bool x65.2)), (12, .ptr 3 0), (13, .d (.bool x66.2)), (14, .row 4 x67.1.length 0 x67.1.length), (15, .d (.bool x67.2)), (19, .ptr 5 0), (20, .d (.bool v84)), (21, .row 6 x85.1.length 0 x85.1.length), (22, .d (.bool x85.2))]) (objs := [.box [.d (.cx .f32 x60.Source.A.re x60.Source.A.im), .d (.cx .f32 x60.Source.B.re x60.Source.B.im), .d (.cx .f32 x60.Source.C.re x60.Source.C.im), .row 1 x60.Buses.length 0 x60.Buses.length], .row 8 (x60.Buses.map eSBus), .box [.d (.cx .f32 x65.1.Source.A.re x65.1.Source.A.im), .d (.cx .f32 x65.1.Source.B.re x65.1.Source.B.im), .d (.cx .f32 x65.1.Source.C.re x65.1.Source.C.im), .d (.sl false (x65.1.Buses.map eSBus))], .box [.d (.cx .f32 x66.1.Source.A.re x66.1.Source.A.im), .d (.cx .f32 x66.1.Source.B.re x66.1.Source.B.im), .d (.cx .f32 x66.1.Source.C.re x66.1.Source.C.im), .d (.sl false (x66.1.Buses.map eSBus))], .row 1 (x67.1.map eInti64), .box [.d (.cx .f32 v83.Source.A.re v83.Source.A.im), .d (.cx .f32 v83.Source.B.re v83.Source.B.im), .d (.cx .f32 v83.Source.C.re v83.Source.C.im), .d (.sl false (v83.Buses.map eSBus))], .row 1 (x85.1.map eInti64)]) rfl (by simp) rfl (by repeat' first | exact trivial | refine ⟨?_, ?_⟩) ⟨rfl, trivial, rfl, trivial, rfl, trivial, rfl, trivial, rfl, trivial, rfl, trivial, rfl, trivial, rfl, trivial, rfl, trivial, rfl, trivial, rfl, trivial, rfl, trivial, rfl, trivial, trivial⟩) ?_
          refine aw_region ?_
          refine awl_val hτ rfl rfl rfl ?_
          refine bnd_elim h fun x86 hx86 h => ?_
          refine awl_callP hτ false [] rfl rfl rfl (enterOk func19 rfl rfl) rfl rfl (by simp) ⟨(by repeat' first | exact trivial | refine ⟨?_, ?_⟩), trivial⟩ (by repeat' first | exact trivial | refine ⟨?_, ?_⟩) (impl_CustomersBelow_ok n v83 hx86) ?_
          rintro r0 o0 n0 ⟨rfl, rfl, rfl⟩ -
          refine awl_val hτ rfl rfl rfl ?_
          refine awl_val hτ rfl rfl rfl ?_
          refine awl_val hτ rfl rfl rfl ?_
          refine awl_val hτ rfl rfl rfl ?_
          refine awl_val hτ rfl rfl rfl ?_
          refine awl_nil ?_
          refine aw_seq ?_
          refine aw_weak (weak_ofP [0, 1, 2, 3, 4, 5, 6, 7] (l := [(5, .ptr 0 0), (6, .d (.int .i64 (x60.Buses.length : Int))), (9, .d (.int .i64 (w64 ((1 : Int) + x64)))), (10, .ptr 2 0), (11, .d (.bool x65.2)), (12, .ptr 3 0), (13, .d (.bool x66.2)), (14, .row 4 x67.1.length 0 x67.1.length), (15, .d (.bool x67.2)), (19, .ptr 5 0), (20, .d (.bool v84)), (21, .row 6 x85.1.length 0 x85.1.length), (22, .d (.bool x85.2)), (23, .row 7 x86.1.length 0 x86.1.length), (24, .d (.bool x86.2))]) (objs := [.box [.d (.cx .f32 x60.Source.A.re x60.Source.A.im), .d (.cx .f32 x60.Source.B.re x60.Source.B.im), .d (.cx .f32 x60.Source.C.re x60.Source.C.im), .row 1 x60.Buses.length 0 x60.Buses.length], .row 8 (x60.Buses.map eSBus), .box [.d (.cx .f32 x65.1.Source.A.re x65.1.Source.A.im), .d (.cx .f32 x65.1.Source.B.re x65.1.Source.B.im), .d (.cx .f32 x65.1.Source.C.re x65.1.Source.C.im), .d (.sl false (x65.1.Buses.map eSBus))], .box [.d (.cx .f32 x66.1.Source.A.re x66.1.Source.A.im), .d (.cx .f32 x66.1.Source.B.re x66.1.Source.B.im), .d (.cx .f32 x66.1.Source.C.re x66.1.Source.C.im), .d (.sl false (x66.1.Buses.map eSBus))], .row 1 (x67.1.map eInti64), .box [.d (.cx .f32 v83.Source.A.re v83.Source.A.im), .d (.cx .f32 v83.Source.B.re v83.Source.B.im), .d (.cx .f32 v83.Source.C.re v83.Source.C.im), .d (.sl false (v83.Buses.map eSBus))], .row 1 (x85.1.map eInti64), .row 1 (x86.1.map eInti64)]) rfl (by simp) rfl (by repeat' first | exact trivial | refine ⟨?_, ?_⟩) ⟨rfl, trivial, rfl, trivial, rfl, trivial, rfl, trivial, rfl, trivial, rfl, trivial, rfl, trivial, rfl, trivial, rfl, trivial, rfl, trivial, rfl, trivial, rfl, trivial, rfl, trivial, rfl, trivial, rfl, trivial, trivial⟩) ?_
          refine aw_region ?_
          refine awl_val hτ rfl rfl rfl ?_
          refine awl_val hτ rfl rfl rfl ?_
          refine awl_weak (weak_ofP [2, 3, 4, 5, 6, 7, 1] (l := [(6, .d (.int .i64 (x60.Buses.length : Int))), (10, .ptr 0 0), (11, .d (.bool x65.2)), (12, .ptr 1 0), (13, .d (.bool x66.2)), (14, .row 2 x67.1.length 0 x67.1.length), (15, .d (.bool x67.2)), (19, .ptr 3 0), (20, .d (.bool v84)), (21, .row 4 x85.1.length 0 x85.1.length), (22, .d (.bool x85.2)), (23, .row 5 x86.1.length 0 x86.1.length), (24, .d (.bool x86.2)), (120, .agg [.d (.cx .f32 x60.Source.A.re x60.Source.A.im), .d (.cx .f32 x60.Source.B.re x60.Source.B.im), .d (.cx .f32 x60.Source.C.re x60.Source.C.im), .row 6 x60.Buses.length 0 x60.Buses.length]), (121, .d (.int .i64 (w64 ((1 : Int) + x64))))]) (objs := [.box [.d (.cx .f32 x65.1.Source.A.re x65.1.Source.A.im), .d (.cx .f32 x65.1.Source.B.re x65.1.Source.B.im), .d (.cx .f32 x65.1.Source.C.re x65.1.Source.C.im), .d (.sl false (x65.1.Buses.map eSBus))], .box [.d (.cx .f32 x66.1.Source.A.re x66.1.Source.A.im), .d (.cx .f32 x66.1.Source.B.re x66.1.Source.B.im), .d (.cx .f32 x66.1.Source.C.re x66.1.Source.C.im), .d (.sl false (x66.1.Buses.map eSBus))], .row 1 (x67.1.map eInti64), .box [.d (.cx .f32 v83.Source.A.re v83.Source.A.im), .d (.cx .f32 v83.Source.B.re v83.Source.B.im), .d (.cx .f32 v83.Source.C.re v83.Source.C.im), .d (.sl false (v83.Buses.map eSBus))], .row 1 (x85.1.map eInti64), .row 1 (x86.1.map eInti64), .row 8 (x60.Buses.map eSBus)]) rfl (by simp) rfl (by repeat' first | exact trivial | refine ⟨?_, ?_⟩) ⟨rfl, trivial, rfl, trivial, rfl, trivial, rfl, trivial, rfl, trivial, rfl, trivial, rfl, trivial, rfl, trivial, rfl, trivial, rfl, trivial, rfl, trivial, rfl, trivial, rfl, trivial, rfl, (by repeat' first | exact trivial | refine ⟨?_, ?_⟩), rfl, trivial, trivial⟩) ?_
          refine bnd_elim h fun x87 hx87 h => ?_
          refine awl_callP hτ true [] rfl rfl rfl (enterOk func25 rfl rfl) (mapO_cons (exV_agg (mapO_cons rfl (mapO_cons rfl (mapO_cons rfl (mapO_cons (exC_view (f := eSBus) x60.Buses rfl rfl rfl) mapO_nil))))) (mapO_cons rfl mapO_nil)) rfl (by simp) ⟨⟨trivial, trivial, trivial, (exP_view (f := eSBus) x60.Buses rfl rfl rfl)⟩, trivial, trivial⟩ (by repeat' first | exact trivial | refine ⟨?_, ?_⟩) (impl_PathImpedance_ok_fr n (SFeeder.mk x60.Source x60.Buses) (w64 ((1 : Int) + x64)) hx87) ?_
          rintro r0 o0 n0 ⟨rfl, rfl, rfl⟩ -
          refine awl_val hτ rfl rfl rfl ?_
          refine awl_val hτ rfl rfl rfl ?_
          refine awl_val hτ rfl rfl rfl ?_
          refine awl_val hτ rfl rfl rfl ?_
          refine awl_val hτ rfl rfl rfl ?_
          refine awl_val hτ rfl rfl rfl ?_
          refine awl_val hτ rfl rfl rfl ?_
          refine awl_nil ?_
          refine aw_seq ?_
          refine aw_weak (weak_ofP [0, 1, 2, 3, 4, 5] (l := [(6, .d (.int .i64 (x60.Buses.length : Int))), (10, .ptr 0 0), (11, .d (.bool x65.2)), (12, .ptr 1 0), (13, .d (.bool x66.2)), (14, .row 2 x67.1.length 0 x67.1.length), (15, .d (.bool x67.2)), (19, .ptr 3 0), (20, .d (.bool v84)), (21, .row 4 x85.1.length 0 x85.1.length), (22, .d (.bool x85.2)), (23, .row 5 x86.1.length 0 x86.1.length), (24, .d (.bool x86.2)), (25, .d (.cx .f32 x87.1.re x87.1.im)), (26, .d (.cx .f32 x87.2.1.re x87.2.1.im)), (27, .d (.bool x87.2.2))]) (objs := [.box [.d (.cx .f32 x65.1.Source.A.re x65.1.Source.A.im), .d (.cx .f32 x65.1.Source.B.re x65.1.Source.B.im), .d (.cx .f32 x65.1.Source.C.re x65.1.Source.C.im), .d (.sl false (x65.1.Buses.map eSBus))], .box [.d (.cx .f32 x66.1.Source.A.re x66.1.Source.A.im), .d (.cx .f32 x66.1.Source.B.re x66.1.Source.B.im), .d (.cx .f32 x66.1.Source.C.re x66.1.Source.C.im), .d (.sl false (x66.1.Buses.map eSBus))], .row 1 (x67.1.map eInti64), .box [.d (.cx .f32 v83.Source.A.re v83.Source.A.im), .d (.cx .f32 v83.Source.B.re v83.Source.B.im), .d (.cx .f32 v83.Source.C.re v83.Source.C.im), .d (.sl false (v83.Buses.map eSBus))], .row 1 (x85.1.map eInti64), .row 1 (x86.1.map eInti64)]) rfl (by simp) rfl (by repeat' first | exact trivial | refine ⟨?_, ?_⟩) ⟨rfl, trivial, rfl, trivial, rfl, trivial, rfl, trivial, rfl, trivial, rfl, trivial, rfl, trivial, rfl, trivial, rfl, trivial, rfl, trivial, rfl, trivial, rfl, trivial, rfl, trivial, rfl, trivial, rfl, trivial, rfl, trivial, trivial⟩) ?_
          refine aw_region ?_
          refine awl_val hτ rfl rfl rfl ?_
          refine awl_val hτ rfl rfl rfl ?_
          refine awl_val hτ rfl rfl rfl ?_
          refine awl_val hτ (v := .d (.int .i64 (x65.1.Buses.length : Int))) rfl rfl (Eq.trans rfl (or_len (f := eSBus) x65.1.Buses)) ?_
          refine bnd_elim h fun x88 hx88 h => ?_
          refine awl_callP hτ false [] rfl rfl rfl (enterOk func25 rfl rfl) rfl rfl (by simp) ⟨(by repeat' first | exact trivial | refine ⟨?_, ?_⟩), trivial, trivial⟩ (by repeat' first | exact trivial | refine ⟨?_, ?_⟩) (impl_PathImpedance_ok n v83 (x65.1.Buses.length : Int) hx88) ?_
          rintro r0 o0 n0 ⟨rfl, rfl, rfl⟩ -
          refine awl_val hτ rfl rfl rfl ?_
          refine awl_val hτ rfl rfl rfl ?_
          refine awl_val hτ rfl rfl rfl ?_
          refine awl_val hτ rfl rfl rfl ?_
          refine awl_val hτ rfl rfl rfl ?_
          refine awl_val hτ rfl rfl rfl ?_
          refine awl_val hτ rfl rfl rfl ?_
          refine awl_nil ?_
          refine aw_seq ?_
          refine aw_weak (weak_ofP [0, 1, 2, 3, 4, 5] (l := [(6, .d (.int .i64 (x60.Buses.length : Int))), (10, .ptr 0 0), (11, .d (.bool x65.2)), (12, .ptr 1 0), (13, .d (.bool x66.2)), (14, .row 2 x67.1.length 0 x67.1.length), (15, .d (.bool x67.2)), (19, .ptr 3 0), (20, .d (.bool v84)), (21, .row 4 x85.1.length 0 x85.1.length), (22, .d (.bool x85.2)), (23, .row 5 x86.1.length 0 x86.1.length), (24, .d (.bool x86.2)), (25, .d (.cx .f32 x87.1.re x87.1.im)), (26, .d (.cx .f32 x87.2.1.re x87.2.1.im)), (27, .d (.bool x87.2.2)), (28, .d (.cx .f32 x88.1.re x88.1.im)), (29, .d (.cx .f32 x88.2.1.re x88.2.1.im)), (30, .d (.bool x88.2.2))]) (objs := [.box [.d (.cx .f32 x65.1.Source.A.re x65.1.Source.A.im), .d (.cx .f32 x65.1.Source.B.re x65.1.Source.B.im), .d (.cx .f32 x65.1.Source.C.re x65.1.Source.C.im), .d (.sl false (x65.1.Buses.map eSBus))], .box [.d (.cx .f32 x66.1.Source.A.re x66.1.Source.A.im), .d (.cx .f32 x66.1.Source.B.re x66.1.Source.B.im), .d (.cx .f32 x66.1.Source.C.re x66.1.Source.C.im), .d (.sl false (x66.1.Buses.map eSBus))], .row 1 (x67.1.map eInti64), .box [.d (.cx .f32 v83.Source.A.re v83.Source.A.im), .d (.cx .f32 v83.Source.B.re v83.Source.B.im), .d (.cx .f32 v83.Source.C.re v83.Source.C.im), .d (.sl false (v83.Buses.map eSBus))], .row 1 (x85.1.map eInti64), .row 1 (x86.1.map eInti64)]) rfl (by simp) rfl (by repeat' first | exact trivial | refine ⟨?_, ?_⟩) ⟨rfl, trivial, rfl, trivial, rfl, trivial, rfl, trivial, rfl, trivial, rfl, trivial, rfl, trivial, rfl, trivial, rfl, trivial, rfl, trivial, rfl, trivial, rfl, trivial, rfl, trivial, rfl, trivial, rfl, trivial, rfl, trivial, rfl, trivial, rfl, trivial, rfl, trivial, trivial⟩) ?_
          refine any_start ?_
          refine any_val hτ [] 0 rfl rfl rfl rfl rfl ?_
          refine any_val hτ [] 1 rfl rfl rfl rfl rfl ?_
          refine any_split 136 rfl (fun hb89 => ?_) (fun hb89 => ?_)
          · have h := if_bt h hb89
            refine any_val hτ [] 2 rfl rfl rfl rfl rfl ?_
            refine any_val hτ [] 3 rfl rfl rfl rfl rfl ?_
            refine any_val hτ [] 4 rfl rfl rfl rfl rfl ?_
            refine any_split 139 rfl (fun hb90 => ?_) (fun hb90 => ?_)
            · have h := if_bt h hb90
              refine any_val hτ [] 5 rfl rfl rfl rfl rfl ?_
              refine any_val hτ [] 6 rfl rfl rfl rfl rfl ?_
              refine any_val hτ [] 7 rfl rfl rfl rfl rfl ?_
              refine any_split 142 rfl (fun hb91 => ?_) (fun hb91 => ?_)
              · have h := if_bt h hb91
                refine any_val hτ [] 8 rfl rfl rfl rfl rfl ?_
                refine any_val hτ [] 9 rfl rfl rfl rfl rfl ?_
                refine any_val hτ [] 10 rfl rfl rfl rfl rfl ?_
                refine any_split 145 rfl (fun hb92 => ?_) (fun hb92 => ?_)
                · have h := if_bt h hb92
                  refine any_val hτ [] 11 rfl rfl rfl rfl rfl ?_
                  refine any_val hτ [] 12 rfl rfl rfl rfl rfl ?_
                  refine any_val hτ [] 13 rfl rfl rfl rfl rfl ?_
                  refine any_split 148 rfl (fun hb93 => ?_) (fun hb93 => ?_)
                  · have h := if_bt h hb93
                    refine any_val hτ [] 14 rfl rfl rfl rfl rfl ?_
                    refine any_val hτ [] 15 rfl rfl rfl rfl rfl ?_
                    refine any_val hτ [] 16 rfl rfl rfl rfl rfl ?_
                    refine any_split 151 rfl (fun hb94 => ?_) (fun hb94 => ?_)
                    · have h := if_bt h hb94
                      refine any_val hτ [] 17 rfl rfl rfl rfl rfl ?_
                      refine any_val hτ [] 18 rfl rfl rfl rfl rfl ?_
                      refine any_val hτ [] 19 rfl rfl rfl rfl rfl ?_
                      refine any_split 154 rfl (fun hb95 => ?_) (fun hb95 => ?_)
                      · have h := if_bt h hb95
                        refine any_val hτ [] 20 rfl rfl rfl rfl rfl ?_
                        refine any_val hτ [] 21 rfl rfl rfl rfl rfl ?_
                        refine any_val hτ [] 22 rfl rfl rfl rfl rfl ?_
                        refine any_split 157 rfl (fun hb96 => ?_) (fun hb96 => ?_)
                        · have h := if_bt h hb96
                          refine any_val hτ [3] 23 rfl rfl rfl rfl rfl ?_
                          refine bnd_elim h fun x97 hx97 h => ?_
                          refine any_callP hτ false [] [0, 1, 2, 3, 4, 5] 24 rfl rfl rfl rfl (enterOk func20 rfl rfl) rfl rfl (by simp) ⟨(by repeat' first | exact trivial | refine ⟨?_, ?_⟩), trivial⟩ (by repeat' first | exact trivial | refine ⟨?_, ?_⟩) (impl_ValidFeeder_ok n v83 hx97) ⟨rfl, rfl, rfl, rfl, rfl, rfl, trivial⟩ ?_
                          refine any_val hτ [] 25 rfl rfl rfl rfl rfl ?_
                          refine any_val hτ [] 26 rfl rfl rfl rfl rfl ?_
                          refine any_split 161 rfl (fun hb98 => ?_) (fun hb98 => ?_)
                          · have h := if_bt h hb98
                            refine any_val hτ [0] 27 rfl rfl rfl rfl rfl ?_
                            refine any_val hτ [0] 28 rfl rfl rfl rfl rfl ?_
                            refine any_val hτ (v := .d (.int .i64 (x65.1.Buses.length : Int))) [] 29 rfl rfl rfl rfl (Eq.trans rfl (or_len (f := eSBus) x65.1.Buses)) ?_
                            refine any_val hτ [1] 30 rfl rfl rfl rfl rfl ?_
                            refine any_val hτ [1] 31 rfl rfl rfl rfl rfl ?_
                            refine any_val hτ (v := .d (.int .i64 (x66.1.Buses.length : Int))) [] 32 rfl rfl rfl rfl (Eq.trans rfl (or_len (f := eSBus) x66.1.Buses)) ?_
                            refine any_val hτ [] 33 rfl rfl rfl rfl rfl ?_
                            refine any_val hτ [] 34 rfl rfl rfl rfl rfl ?_
                            refine any_val hτ (v := .d (.bool (decide ((w64 ((x65.1.Buses.length : Int) + (x66.1.Buses.length : Int))) = (x60.Buses.length : Int))))) [] 35 rfl rfl rfl rfl (or_ieq _ _) ?_
                            refine any_val hτ [] 36 rfl rfl rfl rfl rfl ?_
                            refine any_val hτ [] 37 rfl rfl rfl rfl rfl ?_
                            refine any_split 172 rfl (fun hb99 => ?_) (fun hb99 => ?_)
                            · have h := if_t h hb99
                              refine any_val hτ [1] 38 rfl rfl rfl rfl rfl ?_
                              refine any_val hτ [1] 39 rfl rfl rfl rfl rfl ?_
                              refine any_val hτ (v := .d (.int .i64 (x66.1.Buses.length : Int))) [] 40 rfl rfl rfl rfl (Eq.trans rfl (or_len (f := eSBus) x66.1.Buses)) ?_
                              refine any_val hτ [] 41 rfl rfl rfl rfl rfl ?_
                              refine any_need hτ [2] 42 rfl rfl rfl rfl rfl (len_map _) ?_
                              refine any_val hτ (v := .d (.bool (decide ((x66.1.Buses.length : Int) = (x67.1.length : Int))))) [] 43 rfl rfl rfl rfl (or_ieq _ _) ?_
                              refine any_val hτ [] 44 rfl rfl rfl rfl rfl ?_
                              refine any_val hτ [] 45 rfl rfl rfl rfl rfl ?_
                              refine any_split 180 rfl (fun hb100 => ?_) (fun hb100 => ?_)
                              · have h := if_t h hb100
                                refine any_val hτ [] 46 rfl rfl rfl rfl rfl ?_
                                refine bnd_elim h fun x101 hx101 h => ?_
                                refine any_need hτ [4] 47 rfl rfl rfl rfl rfl (row_need hx101) ?_
                                refine any_elem hτ [4] 48 rfl rfl rfl rfl rfl (len_map _) (row_get hx101) rfl ?_
                                refine any_val hτ [] 49 rfl rfl rfl rfl rfl ?_
                                refine bnd_elim h fun x102 hx102 h => ?_
                                refine any_need hτ [5] 50 rfl rfl rfl rfl rfl (row_need hx102) ?_
                                refine any_elem hτ [5] 51 rfl rfl rfl rfl rfl (len_map _) (row_get hx102) rfl ?_
                                refine any_val hτ (v := .d (.bool (decide (x101 = x102)))) [] 52 rfl rfl rfl rfl (or_ieq _ _) ?_
                                refine any_val hτ [] 53 rfl rfl rfl rfl rfl ?_
                                refine any_val hτ [] 54 rfl rfl rfl rfl rfl ?_
                                refine any_split 189 rfl (fun hb103 => ?_) (fun hb103 => ?_)
                                · have h := if_t h hb103
                                  refine any_val hτ [] 55 rfl rfl rfl rfl rfl ?_
                                  refine any_val hτ [] 56 rfl rfl rfl rfl rfl ?_
                                  refine bnd_elim h fun x104 hx104 h => ?_
                                  refine any_callP hτ false [] [0, 1, 2, 3, 4, 5] 57 rfl rfl rfl rfl (enterOk func26 rfl rfl) rfl rfl (by simp) ⟨trivial, trivial, trivial⟩ (by repeat' first | exact trivial | refine ⟨?_, ?_⟩) (impl_SameComplex_ok n x87.1 x88.1 hx104) ⟨rfl, rfl, rfl, rfl, rfl, rfl, trivial⟩ ?_
                                  refine any_val hτ [] 58 rfl rfl rfl rfl rfl ?_
                                  refine any_val hτ [] 59 rfl rfl rfl rfl rfl ?_
                                  refine any_split 194 rfl (fun hb105 => ?_) (fun hb105 => ?_)
                                  · have h := if_bt h hb105
                                    refine any_val hτ [] 60 rfl rfl rfl rfl rfl ?_
                                    refine any_val hτ [] 61 rfl rfl rfl rfl rfl ?_
                                    refine bnd_elim h fun x106 hx106 h => ?_
                                    refine any_callP hτ false [] [0, 1, 2, 3, 4, 5] 62 rfl rfl rfl rfl (enterOk func26 rfl rfl) rfl rfl (by simp) ⟨trivial, trivial, trivial⟩ (by repeat' first | exact trivial | refine ⟨?_, ?_⟩) (impl_SameComplex_ok n x87.2.1 x88.2.1 hx106) ⟨rfl, rfl, rfl, rfl, rfl, rfl, trivial⟩ ?_
                                    refine any_val hτ [] 63 rfl rfl rfl rfl rfl ?_
                                    refine any_val hτ [] 64 rfl rfl rfl rfl rfl ?_
                                    refine any_done mixed (by kernel_rfl) ?_
                                    refine aw_weak (weak_ofP [] (l := [(4, .d (.bool x106))]) (objs := []) rfl (by simp) rfl (by repeat' first | exact trivial | refine ⟨?_, ?_⟩) ⟨rfl, trivial, trivial⟩) ?_
                                    refine aw_ret ?_
                                    have hr := Option.some.inj h
                                    subst hr
                                    exact ret_objs (.inr rfl) [] (objs' := []) (new := []) rfl (by simp) (by simp) rfl (by repeat' first | exact trivial | refine ⟨?_, ?_⟩) rfl rfl (by repeat' first | exact trivial | refine ⟨?_, ?_⟩) (fun _ => ⟨by simp [V.flat, V.flatA, V.flatC, D.flat], flat_nil⟩) ⟨rfl, rfl, rfl⟩
                                  · have h := if_bf h hb105
                                    refine any_skip 60 rfl rfl rfl ?_
                                    refine any_skip 61 rfl rfl rfl ?_
                                    refine any_skip 62 rfl rfl rfl ?_
                                    refine any_val hτ [] 63 rfl rfl rfl rfl rfl ?_
                                    refine any_val hτ [] 64 rfl rfl rfl rfl rfl ?_
                                    refine any_done mixed (by kernel_rfl) ?_
                                    refine aw_weak (weak_ofP [] (l := [(4, .d (.bool false))]) (objs := []) rfl (by simp) rfl (by repeat' first | exact trivial | refine ⟨?_, ?_⟩) ⟨rfl, trivial, trivial⟩) ?_
                                    refine aw_ret ?_
                                    have hr := Option.some.inj h
                                    subst hr
                                    exact ret_objs (.inr rfl) [] (objs' := []) (new := []) rfl (by simp) (by simp) rfl (by repeat' first | exact trivial | refine ⟨?_, ?_⟩) rfl rfl (by repeat' first | exact trivial | refine ⟨?_, ?_⟩) (fun _ => ⟨by simp [V.flat, V.flatA, V.flatC, D.flat], flat_nil⟩) ⟨rfl, rfl, rfl⟩
                                · have h := if_f h hb103
                                  refine any_skip 55 rfl rfl rfl ?_
                                  refine any_skip 56 rfl rfl rfl ?_
                                  refine any_skip 57 rfl rfl rfl ?_
                                  refine any_val hτ [] 58 rfl rfl rfl rfl rfl ?_
                                  refine any_val hτ [] 59 rfl rfl rfl rfl rfl ?_
                                  refine any_skip 60 rfl rfl rfl ?_
                                  refine any_skip 61 rfl rfl rfl ?_
                                  refine any_skip 62 rfl rfl rfl ?_
                                  refine any_val hτ [] 63 rfl rfl rfl rfl rfl ?_
                                  refine any_val hτ [] 64 rfl rfl rfl rfl rfl ?_
                                  refine any_done mixed (by kernel_rfl) ?_
                                  refine aw_weak (weak_ofP [] (l := [(4, .d (.bool false))]) (objs := []) rfl (by simp) rfl (by repeat' first | exact trivial | refine ⟨?_, ?_⟩) ⟨rfl, trivial, trivial⟩) ?_
                                  refine aw_ret ?_
                                  have hr := Option.some.inj h
                                  subst hr
                                  exact ret_objs (.inr rfl) [] (objs' := []) (new := []) rfl (by simp) (by simp) rfl (by repeat' first | exact trivial | refine ⟨?_, ?_⟩) rfl rfl (by repeat' first | exact trivial | refine ⟨?_, ?_⟩) (fun _ => ⟨by simp [V.flat, V.flatA, V.flatC, D.flat], flat_nil⟩) ⟨rfl, rfl, rfl⟩
                              · have h := if_f h hb100
                                refine any_skip 46 rfl rfl rfl ?_
                                refine any_skip 47 rfl rfl rfl ?_
                                refine any_skip 48 rfl rfl rfl ?_
                                refine any_skip 49 rfl rfl rfl ?_
                                refine any_skip 50 rfl rfl rfl ?_
                                refine any_skip 51 rfl rfl rfl ?_
                                refine any_skip 52 rfl rfl rfl ?_
                                refine any_val hτ [] 53 rfl rfl rfl rfl rfl ?_
                                refine any_val hτ [] 54 rfl rfl rfl rfl rfl ?_
                                refine any_skip 55 rfl rfl rfl ?_
                                refine any_skip 56 rfl rfl rfl ?_
                                refine any_skip 57 rfl rfl rfl ?_
                                refine any_val hτ [] 58 rfl rfl rfl rfl rfl ?_
                                refine any_val hτ [] 59 rfl rfl rfl rfl rfl ?_
                                refine any_skip 60 rfl rfl rfl ?_
                                refine any_skip 61 rfl rfl rfl ?_
                                refine any_skip 62 rfl rfl rfl ?_
                                refine any_val hτ [] 63 rfl rfl rfl rfl rfl ?_
                                refine any_val hτ [] 64 rfl rfl rfl rfl rfl ?_
                                refine any_done mixed (by kernel_rfl) ?_
                                refine aw_weak (weak_ofP [] (l := [(4, .d (.bool false))]) (objs := []) rfl (by simp) rfl (by repeat' first | exact trivial | refine ⟨?_, ?_⟩) ⟨rfl, trivial, trivial⟩) ?_
                                refine aw_ret ?_
                                have hr := Option.some.inj h
                                subst hr
                                exact ret_objs (.inr rfl) [] (objs' := []) (new := []) rfl (by simp) (by simp) rfl (by repeat' first | exact trivial | refine ⟨?_, ?_⟩) rfl rfl (by repeat' first | exact trivial | refine ⟨?_, ?_⟩) (fun _ => ⟨by simp [V.flat, V.flatA, V.flatC, D.flat], flat_nil⟩) ⟨rfl, rfl, rfl⟩
                            · have h := if_f h hb99
                              refine any_skip 38 rfl rfl rfl ?_
                              refine any_skip 39 rfl rfl rfl ?_
                              refine any_skip 40 rfl rfl rfl ?_
                              refine any_skip 41 rfl rfl rfl ?_
                              refine any_skip 42 rfl rfl rfl ?_
                              refine any_skip 43 rfl rfl rfl ?_
                              refine any_val hτ [] 44 rfl rfl rfl rfl rfl ?_
                              refine any_val hτ [] 45 rfl rfl rfl rfl rfl ?_
                              refine any_skip 46 rfl rfl rfl ?_
                              refine any_skip 47 rfl rfl rfl ?_
                              refine any_skip 48 rfl rfl rfl ?_
                              refine any_skip 49 rfl rfl rfl ?_
                              refine any_skip 50 rfl rfl rfl ?_
                              refine any_skip 51 rfl rfl rfl ?_
                              refine any_skip 52 rfl rfl rfl ?_
                              refine any_val hτ [] 53 rfl rfl rfl rfl rfl ?_
                              refine any_val hτ [] 54 rfl rfl rfl rfl rfl ?_
                              refine any_skip 55 rfl rfl rfl ?_
                              refine any_skip 56 rfl rfl rfl ?_
                              refine any_skip 57 rfl rfl rfl ?_
                              refine any_val hτ [] 58 rfl rfl rfl rfl rfl ?_
                              refine any_val hτ [] 59 rfl rfl rfl rfl rfl ?_
                              refine any_skip 60 rfl rfl rfl ?_
                              refine any_skip 61 rfl rfl rfl ?_
                              refine any_skip 62 rfl rfl rfl ?_
                              refine any_val hτ [] 63 rfl rfl rfl rfl rfl ?_
                              refine any_val hτ [] 64 rfl rfl rfl rfl rfl ?_
                              refine any_done mixed (by kernel_rfl) ?_
                              refine aw_weak (weak_ofP [] (l := [(4, .d (.bool false))]) (objs := []) rfl (by simp) rfl (by repeat' first | exact trivial | refine ⟨?_, ?_⟩) ⟨rfl, trivial, trivial⟩) ?_
                              refine aw_ret ?_
                              have hr := Option.some.inj h
                              subst hr
                              exact ret_objs (.inr rfl) [] (objs' := []) (new := []) rfl (by simp) (by simp) rfl (by repeat' first | exact trivial | refine ⟨?_, ?_⟩) rfl rfl (by repeat' first | exact trivial | refine ⟨?_, ?_⟩) (fun _ => ⟨by simp [V.flat, V.flatA, V.flatC, D.flat], flat_nil⟩) ⟨rfl, rfl, rfl⟩
                          · have h := if_bf h hb98
                            refine any_skip 27 rfl rfl rfl ?_
                            refine any_skip 28 rfl rfl rfl ?_
                            refine any_skip 29 rfl rfl rfl ?_
                            refine any_skip 30 rfl rfl rfl ?_
                            refine any_skip 31 rfl rfl rfl ?_
                            refine any_skip 32 rfl rfl rfl ?_
                            refine any_skip 33 rfl rfl rfl ?_
                            refine any_skip 34 rfl rfl rfl ?_
                            refine any_skip 35 rfl rfl rfl ?_
                            refine any_val hτ [] 36 rfl rfl rfl rfl rfl ?_
                            refine any_val hτ [] 37 rfl rfl rfl rfl rfl ?_
                            refine any_skip 38 rfl rfl rfl ?_
                            refine any_skip 39 rfl rfl rfl ?_
                            refine any_skip 40 rfl rfl rfl ?_
                            refine any_skip 41 rfl rfl rfl ?_
                            refine any_skip 42 rfl rfl rfl ?_
                            refine any_skip 43 rfl rfl rfl ?_
                            refine any_val hτ [] 44 rfl rfl rfl rfl rfl ?_
                            refine any_val hτ [] 45 rfl rfl rfl rfl rfl ?_
                            refine any_skip 46 rfl rfl rfl ?_
                            refine any_skip 47 rfl rfl rfl ?_
                            refine any_skip 48 rfl rfl rfl ?_
                            refine any_skip 49 rfl rfl rfl ?_
                            refine any_skip 50 rfl rfl rfl ?_
                            refine any_skip 51 rfl rfl rfl ?_
                            refine any_skip 52 rfl rfl rfl ?_
                            refine any_val hτ [] 53 rfl rfl rfl rfl rfl ?_
                            refine any_val hτ [] 54 rfl rfl rfl rfl rfl ?_
                            refine any_skip 55 rfl rfl rfl ?_
                            refine any_skip 56 rfl rfl rfl ?_
                            refine any_skip 57 rfl rfl rfl ?_
                            refine any_val hτ [] 58 rfl rfl rfl rfl rfl ?_
                            refine any_val hτ [] 59 rfl rfl rfl rfl rfl ?_
                            refine any_skip 60 rfl rfl rfl ?_
                            refine any_skip 61 rfl rfl rfl ?_
                            refine any_skip 62 rfl rfl rfl ?_
                            refine any_val hτ [] 63 rfl rfl rfl rfl rfl ?_
                            refine any_val hτ [] 64 rfl rfl rfl rfl rfl ?_
                            refine any_done mixed (by kernel_rfl) ?_
                            refine aw_weak (weak_ofP [] (l := [(4, .d (.bool false))]) (objs := []) rfl (by simp) rfl (by repeat' first | exact trivial | refine ⟨?_, ?_⟩) ⟨rfl, trivial, trivial⟩) ?_
                            refine aw_ret ?_
                            have hr := Option.some.inj h
                            subst hr
                            exact ret_objs (.inr rfl) [] (objs' := []) (new := []) rfl (by simp) (by simp) rfl (by repeat' first | exact trivial | refine ⟨?_, ?_⟩) rfl rfl (by repeat' first | exact trivial | refine ⟨?_, ?_⟩) (fun _ => ⟨by simp [V.flat, V.flatA, V.flatC, D.flat], flat_nil⟩) ⟨rfl, rfl, rfl⟩
                        · have h := if_bf h hb96
                          refine any_skip 23 rfl rfl rfl ?_
                          refine any_skip 24 rfl rfl rfl ?_
                          refine any_val hτ [] 25 rfl rfl rfl rfl rfl ?_
                          refine any_val hτ [] 26 rfl rfl rfl rfl rfl ?_
                          refine any_skip 27 rfl rfl rfl ?_
                          refine any_skip 28 rfl rfl rfl ?_
                          refine any_skip 29 rfl rfl rfl ?_
                          refine any_skip 30 rfl rfl rfl ?_
                          refine any_skip 31 rfl rfl rfl ?_
                          refine any_skip 32 rfl rfl rfl ?_
                          refine any_skip 33 rfl rfl rfl ?_
                          refine any_skip 34 rfl rfl rfl ?_
                          refine any_skip 35 rfl rfl rfl ?_
                          refine any_val hτ [] 36 rfl rfl rfl rfl rfl ?_
                          refine any_val hτ [] 37 rfl rfl rfl rfl rfl ?_
                          refine any_skip 38 rfl rfl rfl ?_
                          refine any_skip 39 rfl rfl rfl ?_
                          refine any_skip 40 rfl rfl rfl ?_
                          refine any_skip 41 rfl rfl rfl ?_
                          refine any_skip 42 rfl rfl rfl ?_
                          refine any_skip 43 rfl rfl rfl ?_
                          refine any_val hτ [] 44 rfl rfl rfl rfl rfl ?_
                          refine any_val hτ [] 45 rfl rfl rfl rfl rfl ?_
                          refine any_skip 46 rfl rfl rfl ?_
                          refine any_skip 47 rfl rfl rfl ?_
                          refine any_skip 48 rfl rfl rfl ?_
                          refine any_skip 49 rfl rfl rfl ?_
                          refine any_skip 50 rfl rfl rfl ?_
                          refine any_skip 51 rfl rfl rfl ?_
                          refine any_skip 52 rfl rfl rfl ?_
                          refine any_val hτ [] 53 rfl rfl rfl rfl rfl ?_
                          refine any_val hτ [] 54 rfl rfl rfl rfl rfl ?_
                          refine any_skip 55 rfl rfl rfl ?_
                          refine any_skip 56 rfl rfl rfl ?_
                          refine any_skip 57 rfl rfl rfl ?_
                          refine any_val hτ [] 58 rfl rfl rfl rfl rfl ?_
                          refine any_val hτ [] 59 rfl rfl rfl rfl rfl ?_
                          refine any_skip 60 rfl rfl rfl ?_
                          refine any_skip 61 rfl rfl rfl ?_
                          refine any_skip 62 rfl rfl rfl ?_
                          refine any_val hτ [] 63 rfl rfl rfl rfl rfl ?_
                          refine any_val hτ [] 64 rfl rfl rfl rfl rfl ?_
                          refine any_done mixed (by kernel_rfl) ?_
                          refine aw_weak (weak_ofP [] (l := [(4, .d (.bool false))]) (objs := []) rfl (by simp) rfl (by repeat' first | exact trivial | refine ⟨?_, ?_⟩) ⟨rfl, trivial, trivial⟩) ?_
                          refine aw_ret ?_
                          have hr := Option.some.inj h
                          subst hr
                          exact ret_objs (.inr rfl) [] (objs' := []) (new := []) rfl (by simp) (by simp) rfl (by repeat' first | exact trivial | refine ⟨?_, ?_⟩) rfl rfl (by repeat' first | exact trivial | refine ⟨?_, ?_⟩) (fun _ => ⟨by simp [V.flat, V.flatA, V.flatC, D.flat], flat_nil⟩) ⟨rfl, rfl, rfl⟩
                      · have h := if_bf h hb95
                        refine any_skip 20 rfl rfl rfl ?_
                        refine any_val hτ [] 21 rfl rfl rfl rfl rfl ?_
                        refine any_val hτ [] 22 rfl rfl rfl rfl rfl ?_
                        refine any_skip 23 rfl rfl rfl ?_
                        refine any_skip 24 rfl rfl rfl ?_
                        refine any_val hτ [] 25 rfl rfl rfl rfl rfl ?_
                        refine any_val hτ [] 26 rfl rfl rfl rfl rfl ?_
                        refine any_skip 27 rfl rfl rfl ?_
                        refine any_skip 28 rfl rfl rfl ?_
                        refine any_skip 29 rfl rfl rfl ?_
                        refine any_skip 30 rfl rfl rfl ?_
                        refine any_skip 31 rfl rfl rfl ?_
                        refine any_skip 32 rfl rfl rfl ?_
                        refine any_skip 33 rfl rfl rfl ?_
                        refine any_skip 34 rfl rfl rfl ?_
                        refine any_skip 35 rfl rfl rfl ?_
                        refine any_val hτ [] 36 rfl rfl rfl rfl rfl ?_
                        refine any_val hτ [] 37 rfl rfl rfl rfl rfl ?_
                        refine any_skip 38 rfl rfl rfl ?_
                        refine any_skip 39 rfl rfl rfl ?_
                        refine any_skip 40 rfl rfl rfl ?_
                        refine any_skip 41 rfl rfl rfl ?_
                        refine any_skip 42 rfl rfl rfl ?_
                        refine any_skip 43 rfl rfl rfl ?_
                        refine any_val hτ [] 44 rfl rfl rfl rfl rfl ?_
                        refine any_val hτ [] 45 rfl rfl rfl rfl rfl ?_
                        refine any_skip 46 rfl rfl rfl ?_
                        refine any_skip 47 rfl rfl rfl ?_
                        refine any_skip 48 rfl rfl rfl ?_
                        refine any_skip 49 rfl rfl rfl ?_
                        refine any_skip 50 rfl rfl rfl ?_
                        refine any_skip 51 rfl rfl rfl ?_
                        refine any_skip 52 rfl rfl rfl ?_
                        refine any_val hτ [] 53 rfl rfl rfl rfl rfl ?_
                        refine any_val hτ [] 54 rfl rfl rfl rfl rfl ?_
                        refine any_skip 55 rfl rfl rfl ?_
                        refine any_skip 56 rfl rfl rfl ?_
                        refine any_skip 57 rfl rfl rfl ?_
                        refine any_val hτ [] 58 rfl rfl rfl rfl rfl ?_
                        refine any_val hτ [] 59 rfl rfl rfl rfl rfl ?_
                        refine any_skip 60 rfl rfl rfl ?_
                        refine any_skip 61 rfl rfl rfl ?_
                        refine any_skip 62 rfl rfl rfl ?_
                        refine any_val hτ [] 63 rfl rfl rfl rfl rfl ?_
                        refine any_val hτ [] 64 rfl rfl rfl rfl rfl ?_
                        refine any_done mixed (by kernel_rfl) ?_
                        refine aw_weak (weak_ofP [] (l := [(4, .d (.bool false))]) (objs := []) rfl (by simp) rfl (by repeat' first | exact trivial | refine ⟨?_, ?_⟩) ⟨rfl, trivial, trivial⟩) ?_
                        refine aw_ret ?_
                        have hr := Option.some.inj h
                        subst hr
                        exact ret_objs (.inr rfl) [] (objs' := []) (new := []) rfl (by simp) (by simp) rfl (by repeat' first | exact trivial | refine ⟨?_, ?_⟩) rfl rfl (by repeat' first | exact trivial | refine ⟨?_, ?_⟩) (fun _ => ⟨by simp [V.flat, V.flatA, V.flatC, D.flat], flat_nil⟩) ⟨rfl, rfl, rfl⟩
                    · have h := if_bf h hb94
                      refine any_skip 17 rfl rfl rfl ?_
                      refine any_val hτ [] 18 rfl rfl rfl rfl rfl ?_
                      refine any_val hτ [] 19 rfl rfl rfl rfl rfl ?_
                      refine any_skip 20 rfl rfl rfl ?_
                      refine any_val hτ [] 21 rfl rfl rfl rfl rfl ?_
                      refine any_val hτ [] 22 rfl rfl rfl rfl rfl ?_
                      refine any_skip 23 rfl rfl rfl ?_
                      refine any_skip 24 rfl rfl rfl ?_
                      refine any_val hτ [] 25 rfl rfl rfl rfl rfl ?_
                      refine any_val hτ [] 26 rfl rfl rfl rfl rfl ?_
                      refine any_skip 27 rfl rfl rfl ?_
                      refine any_skip 28 rfl rfl rfl ?_
                      refine any_skip 29 rfl rfl rfl ?_
                      refine any_skip 30 rfl rfl rfl ?_
                      refine any_skip 31 rfl rfl rfl ?_
                      refine any_skip 32 rfl rfl rfl ?_
                      refine any_skip 33 rfl rfl rfl ?_
                      refine any_skip 34 rfl rfl rfl ?_
                      refine any_skip 35 rfl rfl rfl ?_
                      refine any_val hτ [] 36 rfl rfl rfl rfl rfl ?_
                      refine any_val hτ [] 37 rfl rfl rfl rfl rfl ?_
                      refine any_skip 38 rfl rfl rfl ?_
                      refine any_skip 39 rfl rfl rfl ?_
                      refine any_skip 40 rfl rfl rfl ?_
                      refine any_skip 41 rfl rfl rfl ?_
                      refine any_skip 42 rfl rfl rfl ?_
                      refine any_skip 43 rfl rfl rfl ?_
                      refine any_val hτ [] 44 rfl rfl rfl rfl rfl ?_
                      refine any_val hτ [] 45 rfl rfl rfl rfl rfl ?_
                      refine any_skip 46 rfl rfl rfl ?_
                      refine any_skip 47 rfl rfl rfl ?_
                      refine any_skip 48 rfl rfl rfl ?_
                      refine any_skip 49 rfl rfl rfl ?_
                      refine any_skip 50 rfl rfl rfl ?_
                      refine any_skip 51 rfl rfl rfl ?_
                      refine any_skip 52 rfl rfl rfl ?_
                      refine any_val hτ [] 53 rfl rfl rfl rfl rfl ?_
                      refine any_val hτ [] 54 rfl rfl rfl rfl rfl ?_
                      refine any_skip 55 rfl rfl rfl ?_
                      refine any_skip 56 rfl rfl rfl ?_
                      refine any_skip 57 rfl rfl rfl ?_
                      refine any_val hτ [] 58 rfl rfl rfl rfl rfl ?_
                      refine any_val hτ [] 59 rfl rfl rfl rfl rfl ?_
                      refine any_skip 60 rfl rfl rfl ?_
                      refine any_skip 61 rfl rfl rfl ?_
                      refine any_skip 62 rfl rfl rfl ?_
                      refine any_val hτ [] 63 rfl rfl rfl rfl rfl ?_
                      refine any_val hτ [] 64 rfl rfl rfl rfl rfl ?_
                      refine any_done mixed (by kernel_rfl) ?_
                      refine aw_weak (weak_ofP [] (l := [(4, .d (.bool false))]) (objs := []) rfl (by simp) rfl (by repeat' first | exact trivial | refine ⟨?_, ?_⟩) ⟨rfl, trivial, trivial⟩) ?_
                      refine aw_ret ?_
                      have hr := Option.some.inj h
                      subst hr
                      exact ret_objs (.inr rfl) [] (objs' := []) (new := []) rfl (by simp) (by simp) rfl (by repeat' first | exact trivial | refine ⟨?_, ?_⟩) rfl rfl (by repeat' first | exact trivial | refine ⟨?_, ?_⟩) (fun _ => ⟨by simp [V.flat, V.flatA, V.flatC, D.flat], flat_nil⟩) ⟨rfl, rfl, rfl⟩
                  · have h := if_bf h hb93
                    refine any_skip 14 rfl rfl rfl ?_
                    refine any_val hτ [] 15 rfl rfl rfl rfl rfl ?_
                    refine any_val hτ [] 16 rfl rfl rfl rfl rfl ?_
                    refine any_skip 17 rfl rfl rfl ?_
                    refine any_val hτ [] 18 rfl rfl rfl rfl rfl ?_
                    refine any_val hτ [] 19 rfl rfl rfl rfl rfl ?_
                    refine any_skip 20 rfl rfl rfl ?_
                    refine any_val hτ [] 21 rfl rfl rfl rfl rfl ?_
                    refine any_val hτ [] 22 rfl rfl rfl rfl rfl ?_
                    refine any_skip 23 rfl rfl rfl ?_
                    refine any_skip 24 rfl rfl rfl ?_
                    refine any_val hτ [] 25 rfl rfl rfl rfl rfl ?_
                    refine any_val hτ [] 26 rfl rfl rfl rfl rfl ?_
                    refine any_skip 27 rfl rfl rfl ?_
                    refine any_skip 28 rfl rfl rfl ?_
                    refine any_skip 29 rfl rfl rfl ?_
                    refine any_skip 30 rfl rfl rfl ?_
                    refine any_skip 31 rfl rfl rfl ?_
                    refine any_skip 32 rfl rfl rfl ?_
                    refine any_skip 33 rfl rfl rfl ?_
                    refine any_skip 34 rfl rfl rfl ?_
                    refine any_skip 35 rfl rfl rfl ?_
                    refine any_val hτ [] 36 rfl rfl rfl rfl rfl ?_
                    refine any_val hτ [] 37 rfl rfl rfl rfl rfl ?_
                    refine any_skip 38 rfl rfl rfl ?_
                    refine any_skip 39 rfl rfl rfl ?_
                    refine any_skip 40 rfl rfl rfl ?_
                    refine any_skip 41 rfl rfl rfl ?_
                    refine any_skip 42 rfl rfl rfl ?_
                    refine any_skip 43 rfl rfl rfl ?_
                    refine any_val hτ [] 44 rfl rfl rfl rfl rfl ?_
                    refine any_val hτ [] 45 rfl rfl rfl rfl rfl ?_
                    refine any_skip 46 rfl rfl rfl ?_
                    refine any_skip 47 rfl rfl rfl ?_
                    refine any_skip 48 rfl rfl rfl ?_
                    refine any_skip 49 rfl rfl rfl ?_
                    refine any_skip 50 rfl rfl rfl ?_
                    refine any_skip 51 rfl rfl rfl ?_
                    refine any_skip 52 rfl rfl rfl ?_
                    refine any_val hτ [] 53 rfl rfl rfl rfl rfl ?_
                    refine any_val hτ [] 54 rfl rfl rfl rfl rfl ?_
                    refine any_skip 55 rfl rfl rfl ?_
                    refine any_skip 56 rfl rfl rfl ?_
                    refine any_skip 57 rfl rfl rfl ?_
                    refine any_val hτ [] 58 rfl rfl rfl rfl rfl ?_
                    refine any_val hτ [] 59 rfl rfl rfl rfl rfl ?_
                    refine any_skip 60 rfl rfl rfl ?_
                    refine any_skip 61 rfl rfl rfl ?_
                    refine any_skip 62 rfl rfl rfl ?_
                    refine any_val hτ [] 63 rfl rfl rfl rfl rfl ?_
                    refine any_val hτ [] 64 rfl rfl rfl rfl rfl ?_
                    refine any_done mixed (by kernel_rfl) ?_
                    refine aw_weak (weak_ofP [] (l := [(4, .d (.bool false))]) (objs := []) rfl (by simp) rfl (by repeat' first | exact trivial | refine ⟨?_, ?_⟩) ⟨rfl, trivial, trivial⟩) ?_
                    refine aw_ret ?_
                    have hr := Option.some.inj h
                    subst hr
                    exact ret_objs (.inr rfl) [] (objs' := []) (new := []) rfl (by simp) (by simp) rfl (by repeat' first | exact trivial | refine ⟨?_, ?_⟩) rfl rfl (by repeat' first | exact trivial | refine ⟨?_, ?_⟩) (fun _ => ⟨by simp [V.flat, V.flatA, V.flatC, D.flat], flat_nil⟩) ⟨rfl, rfl, rfl⟩
                · have h := if_bf h hb92
                  refine any_skip 11 rfl rfl rfl ?_
                  refine any_val hτ [] 12 rfl rfl rfl rfl rfl ?_
                  refine any_val hτ [] 13 rfl rfl rfl rfl rfl ?_
                  refine any_skip 14 rfl rfl rfl ?_
                  refine any_val hτ [] 15 rfl rfl rfl rfl rfl ?_
                  refine any_val hτ [] 16 rfl rfl rfl rfl rfl ?_
                  refine any_skip 17 rfl rfl rfl ?_
                  refine any_val hτ [] 18 rfl rfl rfl rfl rfl ?_
                  refine any_val hτ [] 19 rfl rfl rfl rfl rfl ?_
                  refine any_skip 20 rfl rfl rfl ?_
                  refine any_val hτ [] 21 rfl rfl rfl rfl rfl ?_
                  refine any_val hτ [] 22 rfl rfl rfl rfl rfl ?_
                  refine any_skip 23 rfl rfl rfl ?_
                  refine any_skip 24 rfl rfl rfl ?_
                  refine any_val hτ [] 25 rfl rfl rfl rfl rfl ?_
                  refine any_val hτ [] 26 rfl rfl rfl rfl rfl ?_
                  refine any_skip 27 rfl rfl rfl ?_
                  refine any_skip 28 rfl rfl rfl ?_
                  refine any_skip 29 rfl rfl rfl ?_
                  refine any_skip 30 rfl rfl rfl ?_
                  refine any_skip 31 rfl rfl rfl ?_
                  refine any_skip 32 rfl rfl rfl ?_
                  refine any_skip 33 rfl rfl rfl ?_
                  refine any_skip 34 rfl rfl rfl ?_
                  refine any_skip 35 rfl rfl rfl ?_
                  refine any_val hτ [] 36 rfl rfl rfl rfl rfl ?_
                  refine any_val hτ [] 37 rfl rfl rfl rfl rfl ?_
                  refine any_skip 38 rfl rfl rfl ?_
                  refine any_skip 39 rfl rfl rfl ?_
                  refine any_skip 40 rfl rfl rfl ?_
                  refine any_skip 41 rfl rfl rfl ?_
                  refine any_skip 42 rfl rfl rfl ?_
                  refine any_skip 43 rfl rfl rfl ?_
                  refine any_val hτ [] 44 rfl rfl rfl rfl rfl ?_
                  refine any_val hτ [] 45 rfl rfl rfl rfl rfl ?_
                  refine any_skip 46 rfl rfl rfl ?_
                  refine any_skip 47 rfl rfl rfl ?_
                  refine any_skip 48 rfl rfl rfl ?_
                  refine any_skip 49 rfl rfl rfl ?_
                  refine any_skip 50 rfl rfl rfl ?_
                  refine any_skip 51 rfl rfl rfl ?_
                  refine any_skip 52 rfl rfl rfl ?_
                  refine any_val hτ [] 53 rfl rfl rfl rfl rfl ?_
                  refine any_val hτ [] 54 rfl rfl rfl rfl rfl ?_
                  refine any_skip 55 rfl rfl rfl ?_
                  refine any_skip 56 rfl rfl rfl ?_
                  refine any_skip 57 rfl rfl rfl ?_
                  refine any_val hτ [] 58 rfl rfl rfl rfl rfl ?_
                  refine any_val hτ [] 59 rfl rfl rfl rfl rfl ?_
                  refine any_skip 60 rfl rfl rfl ?_
                  refine any_skip 61 rfl rfl rfl ?_
                  refine any_skip 62 rfl rfl rfl ?_
                  refine any_val hτ [] 63 rfl rfl rfl rfl rfl ?_
                  refine any_val hτ [] 64 rfl rfl rfl rfl rfl ?_
                  refine any_done mixed (by kernel_rfl) ?_
                  refine aw_weak (weak_ofP [] (l := [(4, .d (.bool false))]) (objs := []) rfl (by simp) rfl (by repeat' first | exact trivial | refine ⟨?_, ?_⟩) ⟨rfl, trivial, trivial⟩) ?_
                  refine aw_ret ?_
                  have hr := Option.some.inj h
                  subst hr
                  exact ret_objs (.inr rfl) [] (objs' := []) (new := []) rfl (by simp) (by simp) rfl (by repeat' first | exact trivial | refine ⟨?_, ?_⟩) rfl rfl (by repeat' first | exact trivial | refine ⟨?_, ?_⟩) (fun _ => ⟨by simp [V.flat, V.flatA, V.flatC, D.flat], flat_nil⟩) ⟨rfl, rfl, rfl⟩
              · have h := if_bf h hb91
                refine any_skip 8 rfl rfl rfl ?_
                refine any_val hτ [] 9 rfl rfl rfl rfl rfl ?_
                refine any_val hτ [] 10 rfl rfl rfl rfl rfl ?_
                refine any_skip 11 rfl rfl rfl ?_
                refine any_val hτ [] 12 rfl rfl rfl rfl rfl ?_
                refine any_val hτ [] 13 rfl rfl rfl rfl rfl ?_
                refine any_skip 14 rfl rfl rfl ?_
                refine any_val hτ [] 15 rfl rfl rfl rfl rfl ?_
                refine any_val hτ [] 16 rfl rfl rfl rfl rfl ?_
                refine any_skip 17 rfl rfl rfl ?_
                refine any_val hτ [] 18 rfl rfl rfl rfl rfl ?_
                refine any_val hτ [] 19 rfl rfl rfl rfl rfl ?_
                refine any_skip 20 rfl rfl rfl ?_
                refine any_val hτ [] 21 rfl rfl rfl rfl rfl ?_
                refine any_val hτ [] 22 rfl rfl rfl rfl rfl ?_
                refine any_skip 23 rfl rfl rfl ?_
                refine any_skip 24 rfl rfl rfl ?_
                refine any_val hτ [] 25 rfl rfl rfl rfl rfl ?_
                refine any_val hτ [] 26 rfl rfl rfl rfl rfl ?_
                refine any_skip 27 rfl rfl rfl ?_
                refine any_skip 28 rfl rfl rfl ?_
                refine any_skip 29 rfl rfl rfl ?_
                refine any_skip 30 rfl rfl rfl ?_
                refine any_skip 31 rfl rfl rfl ?_
                refine any_skip 32 rfl rfl rfl ?_
                refine any_skip 33 rfl rfl rfl ?_
                refine any_skip 34 rfl rfl rfl ?_
                refine any_skip 35 rfl rfl rfl ?_
                refine any_val hτ [] 36 rfl rfl rfl rfl rfl ?_
                refine any_val hτ [] 37 rfl rfl rfl rfl rfl ?_
                refine any_skip 38 rfl rfl rfl ?_
                refine any_skip 39 rfl rfl rfl ?_
                refine any_skip 40 rfl rfl rfl ?_
                refine any_skip 41 rfl rfl rfl ?_
                refine any_skip 42 rfl rfl rfl ?_
                refine any_skip 43 rfl rfl rfl ?_
                refine any_val hτ [] 44 rfl rfl rfl rfl rfl ?_
                refine any_val hτ [] 45 rfl rfl rfl rfl rfl ?_
                refine any_skip 46 rfl rfl rfl ?_
                refine any_skip 47 rfl rfl rfl ?_
                refine any_skip 48 rfl rfl rfl ?_
                refine any_skip 49 rfl rfl rfl ?_
                refine any_skip 50 rfl rfl rfl ?_
                refine any_skip 51 rfl rfl rfl ?_
                refine any_skip 52 rfl rfl rfl ?_
                refine any_val hτ [] 53 rfl rfl rfl rfl rfl ?_
                refine any_val hτ [] 54 rfl rfl rfl rfl rfl ?_
                refine any_skip 55 rfl rfl rfl ?_
                refine any_skip 56 rfl rfl rfl ?_
                refine any_skip 57 rfl rfl rfl ?_
                refine any_val hτ [] 58 rfl rfl rfl rfl rfl ?_
                refine any_val hτ [] 59 rfl rfl rfl rfl rfl ?_
                refine any_skip 60 rfl rfl rfl ?_
                refine any_skip 61 rfl rfl rfl ?_
                refine any_skip 62 rfl rfl rfl ?_
                refine any_val hτ [] 63 rfl rfl rfl rfl rfl ?_
                refine any_val hτ [] 64 rfl rfl rfl rfl rfl ?_
                refine any_done mixed (by kernel_rfl) ?_
                refine aw_weak (weak_ofP [] (l := [(4, .d (.bool false))]) (objs := []) rfl (by simp) rfl (by repeat' first | exact trivial | refine ⟨?_, ?_⟩) ⟨rfl, trivial, trivial⟩) ?_
                refine aw_ret ?_
                have hr := Option.some.inj h
                subst hr
                exact ret_objs (.inr rfl) [] (objs' := []) (new := []) rfl (by simp) (by simp) rfl (by repeat' first | exact trivial | refine ⟨?_, ?_⟩) rfl rfl (by repeat' first | exact trivial | refine ⟨?_, ?_⟩) (fun _ => ⟨by simp [V.flat, V.flatA, V.flatC, D.flat], flat_nil⟩) ⟨rfl, rfl, rfl⟩
            · have h := if_bf h hb90
              refine any_skip 5 rfl rfl rfl ?_
              refine any_val hτ [] 6 rfl rfl rfl rfl rfl ?_
              refine any_val hτ [] 7 rfl rfl rfl rfl rfl ?_
              refine any_skip 8 rfl rfl rfl ?_
              refine any_val hτ [] 9 rfl rfl rfl rfl rfl ?_
              refine any_val hτ [] 10 rfl rfl rfl rfl rfl ?_
              refine any_skip 11 rfl rfl rfl ?_
              refine any_val hτ [] 12 rfl rfl rfl rfl rfl ?_
              refine any_val hτ [] 13 rfl rfl rfl rfl rfl ?_
              refine any_skip 14 rfl rfl rfl ?_
              refine any_val hτ [] 15 rfl rfl rfl rfl rfl ?_
              refine any_val hτ [] 16 rfl rfl rfl rfl rfl ?_
              refine any_skip 17 rfl rfl rfl ?_
              refine any_val hτ [] 18 rfl rfl rfl rfl rfl ?_
              refine any_val hτ [] 19 rfl rfl rfl rfl rfl ?_
              refine any_skip 20 rfl rfl rfl ?_
              refine any_val hτ [] 21 rfl rfl rfl rfl rfl ?_
              refine any_val hτ [] 22 rfl rfl rfl rfl rfl ?_
              refine any_skip 23 rfl rfl rfl ?_
              refine any_skip 24 rfl rfl rfl ?_
              refine any_val hτ [] 25 rfl rfl rfl rfl rfl ?_
              refine any_val hτ [] 26 rfl rfl rfl rfl rfl ?_
              refine any_skip 27 rfl rfl rfl ?_
              refine any_skip 28 rfl rfl rfl ?_
              refine any_skip 29 rfl rfl rfl ?_
              refine any_skip 30 rfl rfl rfl ?_
              refine any_skip 31 rfl rfl rfl ?_
              refine any_skip 32 rfl rfl rfl ?_
              refine any_skip 33 rfl rfl rfl ?_
              refine any_skip 34 rfl rfl rfl ?_
              refine any_skip 35 rfl rfl rfl ?_
              refine any_val hτ [] 36 rfl rfl rfl rfl rfl ?_
              refine any_val hτ [] 37 rfl rfl rfl rfl rfl ?_
              refine any_skip 38 rfl rfl rfl ?_
              refine any_skip 39 rfl rfl rfl ?_
              refine any_skip 40 rfl rfl rfl ?_
              refine any_skip 41 rfl rfl rfl ?_
              refine any_skip 42 rfl rfl rfl ?_
              refine any_skip 43 rfl rfl rfl ?_
              refine any_val hτ [] 44 rfl rfl rfl rfl rfl ?_
              refine any_val hτ [] 45 rfl rfl rfl rfl rfl ?_
              refine any_skip 46 rfl rfl rfl ?_
              refine any_skip 47 rfl rfl rfl ?_
              refine any_skip 48 rfl rfl rfl ?_
              refine any_skip 49 rfl rfl rfl ?_
              refine any_skip 50 rfl rfl rfl ?_
              refine any_skip 51 rfl rfl rfl ?_
              refine any_skip 52 rfl rfl rfl ?_
              refine any_val hτ [] 53 rfl rfl rfl rfl rfl ?_
              refine any_val hτ [] 54 rfl rfl rfl rfl rfl ?_
              refine any_skip 55 rfl rfl rfl ?_
              refine any_skip 56 rfl rfl rfl ?_
              refine any_skip 57 rfl rfl rfl ?_
              refine any_val hτ [] 58 rfl rfl rfl rfl rfl ?_
              refine any_val hτ [] 59 rfl rfl rfl rfl rfl ?_
              refine any_skip 60 rfl rfl rfl ?_
              refine any_skip 61 rfl rfl rfl ?_
              refine any_skip 62 rfl rfl rfl ?_
              refine any_val hτ [] 63 rfl rfl rfl rfl rfl ?_
              refine any_val hτ [] 64 rfl rfl rfl rfl rfl ?_
              refine any_done mixed (by kernel_rfl) ?_
              refine aw_weak (weak_ofP [] (l := [(4, .d (.bool false))]) (objs := []) rfl (by simp) rfl (by repeat' first | exact trivial | refine ⟨?_, ?_⟩) ⟨rfl, trivial, trivial⟩) ?_
              refine aw_ret ?_
              have hr := Option.some.inj h
              subst hr
              exact ret_objs (.inr rfl) [] (objs' := []) (new := []) rfl (by simp) (by simp) rfl (by repeat' first | exact trivial | refine ⟨?_, ?_⟩) rfl rfl (by repeat' first | exact trivial | refine ⟨?_, ?_⟩) (fun _ => ⟨by simp [V.flat, V.flatA, V.flatC, D.flat], flat_nil⟩) ⟨rfl, rfl, rfl⟩
          · have h := if_bf h hb89
            refine any_skip 2 rfl rfl rfl ?_
            refine any_val hτ [] 3 rfl rfl rfl rfl rfl ?_
            refine any_val hτ [] 4 rfl rfl rfl rfl rfl ?_
            refine any_skip 5 rfl rfl rfl ?_
            refine any_val hτ [] 6 rfl rfl rfl rfl rfl ?_
            refine any_val hτ [] 7 rfl rfl rfl rfl rfl ?_
            refine any_skip 8 rfl rfl rfl ?_
            refine any_val hτ [] 9 rfl rfl rfl rfl rfl ?_
            refine any_val hτ [] 10 rfl rfl rfl rfl rfl ?_
            refine any_skip 11 rfl rfl rfl ?_
            refine any_val hτ [] 12 rfl rfl rfl rfl rfl ?_
            refine any_val hτ [] 13 rfl rfl rfl rfl rfl ?_
            refine any_skip 14 rfl rfl rfl ?_
            refine any_val hτ [] 15 rfl rfl rfl rfl rfl ?_
            refine any_val hτ [] 16 rfl rfl rfl rfl rfl ?_
            refine any_skip 17 rfl rfl rfl ?_
            refine any_val hτ [] 18 rfl rfl rfl rfl rfl ?_
            refine any_val hτ [] 19 rfl rfl rfl rfl rfl ?_
            refine any_skip 20 rfl rfl rfl ?_
            refine any_val hτ [] 21 rfl rfl rfl rfl rfl ?_
            refine any_val hτ [] 22 rfl rfl rfl rfl rfl ?_
            refine any_skip 23 rfl rfl rfl ?_
            refine any_skip 24 rfl rfl rfl ?_
            refine any_val hτ [] 25 rfl rfl rfl rfl rfl ?_
            refine any_val hτ [] 26 rfl rfl rfl rfl rfl ?_
            refine any_skip 27 rfl rfl rfl ?_
            refine any_skip 28 rfl rfl rfl ?_
            refine any_skip 29 rfl rfl rfl ?_
            refine any_skip 30 rfl rfl rfl ?_
            refine any_skip 31 rfl rfl rfl ?_
            refine any_skip 32 rfl rfl rfl ?_
            refine any_skip 33 rfl rfl rfl ?_
            refine any_skip 34 rfl rfl rfl ?_
            refine any_skip 35 rfl rfl rfl ?_
            refine any_val hτ [] 36 rfl rfl rfl rfl rfl ?_
            refine any_val hτ [] 37 rfl rfl rfl rfl rfl ?_
            refine any_skip 38 rfl rfl rfl ?_
            refine any_skip 39 rfl rfl rfl ?_
            refine any_skip 40 rfl rfl rfl ?_
            refine any_skip 41 rfl rfl rfl ?_
            refine any_skip 42 rfl rfl rfl ?_
            refine any_skip 43 rfl rfl rfl ?_
            refine any_val hτ [] 44 rfl rfl rfl rfl rfl ?_
            refine any_val hτ [] 45 rfl rfl rfl rfl rfl ?_
            refine any_skip 46 rfl rfl rfl ?_
            refine any_skip 47 rfl rfl rfl ?_
            refine any_skip 48 rfl rfl rfl ?_
            refine any_skip 49 rfl rfl rfl ?_
            refine any_skip 50 rfl rfl rfl ?_
            refine any_skip 51 rfl rfl rfl ?_
            refine any_skip 52 rfl rfl rfl ?_
            refine any_val hτ [] 53 rfl rfl rfl rfl rfl ?_
            refine any_val hτ [] 54 rfl rfl rfl rfl rfl ?_
            refine any_skip 55 rfl rfl rfl ?_
            refine any_skip 56 rfl rfl rfl ?_
            refine any_skip 57 rfl rfl rfl ?_
            refine any_val hτ [] 58 rfl rfl rfl rfl rfl ?_
            refine any_val hτ [] 59 rfl rfl rfl rfl rfl ?_
            refine any_skip 60 rfl rfl rfl ?_
            refine any_skip 61 rfl rfl rfl ?_
            refine any_skip 62 rfl rfl rfl ?_
            refine any_val hτ [] 63 rfl rfl rfl rfl rfl ?_
            refine any_val hτ [] 64 rfl rfl rfl rfl rfl ?_
            refine any_done mixed (by kernel_rfl) ?_
            refine aw_weak (weak_ofP [] (l := [(4, .d (.bool false))]) (objs := []) rfl (by simp) rfl (by repeat' first | exact trivial | refine ⟨?_, ?_⟩) ⟨rfl, trivial, trivial⟩) ?_
            refine aw_ret ?_
            have hr := Option.some.inj h
            subst hr
            exact ret_objs (.inr rfl) [] (objs' := []) (new := []) rfl (by simp) (by simp) rfl (by repeat' first | exact trivial | refine ⟨?_, ?_⟩) rfl rfl (by repeat' first | exact trivial | refine ⟨?_, ?_⟩) (fun _ => ⟨by simp [V.flat, V.flatA, V.flatC, D.flat], flat_nil⟩) ⟨rfl, rfl, rfl⟩
        · refine aw_seq ?_
          refine aw_weak (weak_ofP [0, 1, 2, 4, 6] (l := [(5, .ptr 0 0), (6, .d (.int .i64 (x60.Buses.length : Int))), (9, .d (.int .i64 (w64 ((1 : Int) + x64)))), (10, .ptr 2 0), (11, .d (.bool x65.2)), (12, .ptr 3 0), (13, .d (.bool x66.2)), (14, .row 4 x67.1.length 0 x67.1.length), (15, .d (.bool x67.2)), (17, .d (.int .i64 v77))]) (objs := [.box [.d (.cx .f32 x60.Source.A.re x60.Source.A.im), .d (.cx .f32 x60.Source.B.re x60.Source.B.im), .d (.cx .f32 x60.Source.C.re x60.Source.C.im), .row 1 x60.Buses.length 0 x60.Buses.length], .row 8 (x60.Buses.map eSBus), .box [.d (.cx .f32 x65.1.Source.A.re x65.1.Source.A.im), .d (.cx .f32 x65.1.Source.B.re x65.1.Source.B.im), .d (.cx .f32 x65.1.Source.C.re x65.1.Source.C.im), .d (.sl false (x65.1.Buses.map eSBus))], .box [.d (.cx .f32 x66.1.Source.A.re x66.1.Source.A.im), .d (.cx .f32 x66.1.Source.B.re x66.1.Source.B.im), .d (.cx .f32 x66.1.Source.C.re x66.1.Source.C.im), .d (.sl false (x66.1.Buses.map eSBus))], .row 1 (x67.1.map eInti64)]) rfl (by simp) (mapO_cons rfl (mapO_cons rfl (mapO_cons (exO_box (mapO_cons rfl (mapO_cons rfl (mapO_cons rfl (mapO_cons (exC_view (f := eSBus) x65.1.Buses rfl rfl rfl) mapO_nil))))) (mapO_cons (exO_box (mapO_cons rfl (mapO_cons rfl (mapO_cons rfl (mapO_cons (exC_view (f := eSBus) x66.1.Buses rfl rfl rfl) mapO_nil))))) (mapO_cons rfl mapO_nil))))) ⟨(by repeat' first | exact trivial | refine ⟨?_, ?_⟩), trivial, ⟨trivial, trivial, trivial, (exP_view (f := eSBus) x65.1.Buses rfl rfl rfl)⟩, ⟨trivial, trivial, trivial, (exP_view (f := eSBus) x66.1.Buses rfl rfl rfl)⟩, trivial, trivial⟩ ⟨rfl, trivial, rfl, trivial, rfl, trivial, rfl, trivial, rfl, trivial, rfl, trivial, rfl, trivial, rfl, trivial, rfl, trivial, rfl, trivial, trivial⟩) ?_
          refine any_startF mixed ?_
          refine any_val hτ [2] 0 rfl rfl rfl rfl rfl ?_
          refine any_val hτ [] 1 rfl rfl rfl rfl rfl ?_
          refine any_val hτ [3] 2 rfl rfl rfl rfl rfl ?_
          refine any_val hτ [0] 3 rfl rfl rfl rfl rfl ?_
          refine any_val hτ [0] 4 rfl rfl rfl rfl rfl ?_
          refine any_val hτ [] 5 rfl rfl rfl rfl rfl ?_
          refine bnd_elim h fun x109 hx109 h => ?_
          refine any_need hτ [1] 6 rfl rfl rfl rfl rfl (row_need hx109) ?_
          refine any_need hτ [1] 7 rfl rfl rfl rfl rfl (len_map _) ?_
          refine any_elem hτ [1] 8 rfl rfl rfl rfl rfl (len_map _) (row_get hx109) rfl ?_
          refine any_val hτ [0] 9 rfl rfl rfl rfl rfl ?_
          refine any_val hτ [0] 10 rfl rfl rfl rfl rfl ?_
          refine any_val hτ [] 11 rfl rfl rfl rfl rfl ?_
          refine any_need hτ [1] 12 rfl rfl rfl rfl rfl (row_need hx109) ?_
          refine any_need hτ [1] 13 rfl rfl rfl rfl rfl (len_map _) ?_
          refine any_elem hτ [1] 14 rfl rfl rfl rfl rfl (len_map _) (row_get hx109) rfl ?_
          refine any_fork [15, 19] (by kernel_rfl) fun _ hfs => ⟨?_, ?_, trivial⟩
          · refine bnd_elim h fun x110 hx110 h => ?_
            refine any_callP hτ false [] [0, 1, 2, 3, 4] 15 rfl rfl rfl rfl (enterOk func24 rfl rfl) rfl rfl (by simp) ⟨(by repeat' first | exact trivial | refine ⟨?_, ?_⟩), trivial, (by repeat' first | exact trivial | refine ⟨?_, ?_⟩), trivial, trivial, trivial⟩ (by repeat' first | exact trivial | refine ⟨?_, ?_⟩) (impl_GraftFeeder_ok n x65.1 v77 x66.1 x109.Own x109.Shared hx110) ⟨rfl, rfl, rfl, rfl, rfl, trivial⟩ ?_
            refine any_began hfs (by kernel_rfl) fun _ => ?_
            refine any_val hτ [] 16 rfl rfl rfl rfl rfl ?_
            refine any_val hτ [] 17 rfl rfl rfl rfl rfl ?_
            refine any_val hτ [] 18 rfl rfl rfl rfl rfl ?_
            refine any_valHP hτ [0, 1, 2, 3, 4] 19 rfl rfl rfl rfl ⟨rfl, rfl, rfl, rfl, rfl, trivial⟩ ?_
            refine any_valHP hτ [0, 1, 2, 3, 4] 20 rfl rfl rfl rfl ⟨rfl, rfl, rfl, rfl, rfl, trivial⟩ ?_
            refine any_val hτ [] 21 rfl rfl rfl rfl rfl ?_
            refine any_close (by kernel_rfl) ?_
            refine aw_weak (weak_ofP [0, 1, 2, 3, 4, 5] (l := [(5, .ptr 0 0), (6, .d (.int .i64 (x60.Buses.length : Int))), (9, .d (.int .i64 (w64 ((1 : Int) + x64)))), (10, .ptr 2 0), (11, .d (.bool x65.2)), (12, .ptr 3 0), (13, .d (.bool x66.2)), (14, .row 4 x67.1.length 0 x67.1.length), (15, .d (.bool x67.2)), (19, .ptr 5 0), (20, .d (.bool x110.2))]) (objs := [.box [.d (.cx .f32 x60.Source.A.re x60.Source.A.im), .d (.cx .f32 x60.Source.B.re x60.Source.B.im), .d (.cx .f32 x60.Source.C.re x60.Source.C.im), .row 1 x60.Buses.length 0 x60.Buses.length], .row 8 (x60.Buses.map eSBus), .box [.d (.cx .f32 x65.1.Source.A.re x65.1.Source.A.im), .d (.cx .f32 x65.1.Source.B.re x65.1.Source.B.im), .d (.cx .f32 x65.1.Source.C.re x65.1.Source.C.im), .d (.sl false (x65.1.Buses.map eSBus))], .box [.d (.cx .f32 x66.1.Source.A.re x66.1.Source.A.im), .d (.cx .f32 x66.1.Source.B.re x66.1.Source.B.im), .d (.cx .f32 x66.1.Source.C.re x66.1.Source.C.im), .d (.sl false (x66.1.Buses.map eSBus))], .row 1 (x67.1.map eInti64), .box [.d (.cx .f32 x110.1.Source.A.re x110.1.Source.A.im), .d (.cx .f32 x110.1.Source.B.re x110.1.Source.B.im), .d (.cx .f32 x110.1.Source.C.re x110.1.Source.C.im), .d (.sl false (x110.1.Buses.map eSBus))]]) rfl (by simp) rfl (by repeat' first | exact trivial | refine ⟨?_, ?_⟩) ⟨rfl, trivial, rfl, trivial, rfl, trivial, rfl, trivial, rfl, trivial, rfl, trivial, rfl, trivial, rfl, trivial, rfl, trivial, rfl, trivial, rfl, trivial, trivial⟩) ?_
            exact hk107 (x110.1, x110.2) h
          · refine any_valHP hτ [0, 1, 2, 3, 4] 19 rfl rfl rfl rfl ⟨rfl, rfl, rfl, rfl, rfl, trivial⟩ ?_
            refine any_began hfs (by kernel_rfl) fun _ => ?_
            refine bnd_elim h fun x110 hx110 h => ?_
            refine any_callP hτ false [] [0, 1, 2, 3, 4, 5] 15 rfl rfl rfl rfl (enterOk func24 rfl rfl) rfl rfl (by simp) ⟨(by repeat' first | exact trivial | refine ⟨?_, ?_⟩), trivial, (by repeat' first | exact trivial | refine ⟨?_, ?_⟩), trivial, trivial, trivial⟩ (by repeat' first | exact trivial | refine ⟨?_, ?_⟩) (impl_GraftFeeder_ok n x65.1 v77 x66.1 x109.Own x109.Shared hx110) ⟨rfl, rfl, rfl, rfl, rfl, rfl, trivial⟩ ?_
            refine any_val hτ [] 16 rfl rfl rfl rfl rfl ?_
            refine any_val hτ [] 17 rfl rfl rfl rfl rfl ?_
            refine any_val hτ [] 18 rfl rfl rfl rfl rfl ?_
            refine any_valHP hτ [0, 1, 2, 3, 4] 20 rfl rfl rfl rfl ⟨rfl, rfl, rfl, rfl, rfl, trivial⟩ ?_
            refine any_val hτ [] 21 rfl rfl rfl rfl rfl ?_
            refine any_close (by kernel_rfl) ?_
            refine aw_weak (weak_ofP [0, 1, 2, 3, 4, 5] (l := [(5, .ptr 0 0), (6, .d (.int .i64 (x60.Buses.length : Int))), (9, .d (.int .i64 (w64 ((1 : Int) + x64)))), (10, .ptr 2 0), (11, .d (.bool x65.2)), (12, .ptr 3 0), (13, .d (.bool x66.2)), (14, .row 4 x67.1.length 0 x67.1.length), (15, .d (.bool x67.2)), (19, .ptr 5 0), (20, .d (.bool x110.2))]) (objs := [.box [.d (.cx .f32 x60.Source.A.re x60.Source.A.im), .d (.cx .f32 x60.Source.B.re x60.Source.B.im), .d (.cx .f32 x60.Source.C.re x60.Source.C.im), .row 1 x60.Buses.length 0 x60.Buses.length], .row 8 (x60.Buses.map eSBus), .box [.d (.cx .f32 x65.1.Source.A.re x65.1.Source.A.im), .d (.cx .f32 x65.1.Source.B.re x65.1.Source.B.im), .d (.cx .f32 x65.1.Source.C.re x65.1.Source.C.im), .d (.sl false (x65.1.Buses.map eSBus))], .box [.d (.cx .f32 x66.1.Source.A.re x66.1.Source.A.im), .d (.cx .f32 x66.1.Source.B.re x66.1.Source.B.im), .d (.cx .f32 x66.1.Source.C.re x66.1.Source.C.im), .d (.sl false (x66.1.Buses.map eSBus))], .row 1 (x67.1.map eInti64), .box [.d (.cx .f32 x110.1.Source.A.re x110.1.Source.A.im), .d (.cx .f32 x110.1.Source.B.re x110.1.Source.B.im), .d (.cx .f32 x110.1.Source.C.re x110.1.Source.C.im), .d (.sl false (x110.1.Buses.map eSBus))]]) rfl (by simp) rfl (by repeat' first | exact trivial | refine ⟨?_, ?_⟩) ⟨rfl, trivial, rfl, trivial, rfl, trivial, rfl, trivial, rfl, trivial, rfl, trivial, rfl, trivial, rfl, trivial, rfl, trivial, rfl, trivial, rfl, trivial, trivial⟩) ?_
            exact hk107 (x110.1, x110.2) h
      · refine aw_seq ?_
        refine aw_seq ?_
        refine aw_region ?_
        refine awl_val hτ rfl rfl rfl ?_
        refine awl_nil ?_
        refine aw_block ?_
        refine aw_loop (ι := Nat × Int × Int) (fun (m120, v114, v115) => St.of [(5, .ptr 0 0), (6, .d (.int .i64 (x60.Buses.length : Int))), (9, .d (.int .i64 (w64 ((1 : Int) + x64)))), (10, .ptr 2 0), (11, .d (.bool x65.2)), (12, .ptr 4 0), (13, .d (.bool x66.2)), (14, .row 6 x67.1.length 0 x67.1.length), (15, .d (.bool x67.2)), (16, .d (.int .i64 x68.Parent)), (17, .d (.int .i64 v114)), (18, .d (.int .i64 v115))] [.box [.d (.cx .f32 x60.Source.A.re x60.Source.A.im), .d (.cx .f32 x60.Source.B.re x60.Source.B.im), .d (.cx .f32 x60.Source.C.re x60.Source.C.im), .row 1 x60.Buses.length 0 x60.Buses.length], .row 8 (x60.Buses.map eSBus), .box [.d (.cx .f32 x65.1.Source.A.re x65.1.Source.A.im), .d (.cx .f32 x65.1.Source.B.re x65.1.Source.B.im), .d (.cx .f32 x65.1.Source.C.re x65.1.Source.C.im), .row 3 x65.1.Buses.length 0 x65.1.Buses.length], .row 8 (x65.1.Buses.map eSBus), .box [.d (.cx .f32 x66.1.Source.A.re x66.1.Source.A.im), .d (.cx .f32 x66.1.Source.B.re x66.1.Source.B.im), .d (.cx .f32 x66.1.Source.C.re x66.1.Source.C.im), .row 5 x66.1.Buses.length 0 x66.1.Buses.length], .row 8 (x66.1.Buses.map eSBus), .row 1 (x67.1.map eInti64)] f4.ntmps 0) (fun (m120, v114, v115) => m_laws_FnGrafted_l3 n x60 x64 x65 x66 x67 x68 m120 v114 v115 = some r) (fun x => x.1) (n, (0 : Int), (0 : Int)) h (weak_ofP [0, 1, 2, 3, 4, 5, 6] (l := [(5, .ptr 0 0), (6, .d (.int .i64 (x60.Buses.length : Int))), (9, .d (.int .i64 (w64 ((1 : Int) + x64)))), (10, .ptr 2 0), (11, .d (.bool x65.2)), (12, .ptr 4 0), (13, .d (.bool x66.2)), (14, .row 6 x67.1.length 0 x67.1.length), (15, .d (.bool x67.2)), (16, .d (.int .i64 x68.Parent)), (17, .d (.int .i64 (0 : Int))), (18, .d (.int .i64 (0 : Int)))]) (objs := [.box [.d (.cx .f32 x60.Source.A.re x60.Source.A.im), .d (.cx .f32 x60.Source.B.re x60.Source.B.im), .d (.cx .f32 x60.Source.C.re x60.Source.C.im), .row 1 x60.Buses.length 0 x60.Buses.length], .row 8 (x60.Buses.map eSBus), .box [.d (.cx .f32 x65.1.Source.A.re x65.1.Source.A.im), .d (.cx .f32 x65.1.Source.B.re x65.1.Source.B.im), .d (.cx .f32 x65.1.Source.C.re x65.1.Source.C.im), .row 3 x65.1.Buses.length 0 x65.1.Buses.length], .row 8 (x65.1.Buses.map eSBus), .box [.d (.cx .f32 x66.1.Source.A.re x66.1.Source.A.im), .d (.cx .f32 x66.1.Source.B.re x66.1.Source.B.im), .d (.cx .f32 x66.1.Source.C.re x66.1.Source.C.im), .row 5 x66.1.Buses.length 0 x66.1.Buses.length], .row 8 (x66.1.Buses.map eSBus), .row 1 (x67.1.map eInti64)]) rfl (by simp) rfl (by repeat' first | exact trivial | refine ⟨?_, ?_⟩) ⟨rfl, trivial, rfl, trivial, rfl, trivial, rfl, trivial, rfl, trivial, rfl, trivial, rfl, trivial, rfl, trivial, rfl, trivial, rfl, trivial, rfl, trivial, rfl, trivial, trivial⟩) ?_
        rintro ⟨m120, v114, v115⟩ h
        replace h : m_laws_FnGrafted_l3 n x60 x64 x65 x66 x67 x68 m120 v114 v115 = some r := h
        rcases m120 with _ | m120
        · rw [m_laws_FnGrafted_l3] at h; cases h
        rw [m_laws_FnGrafted_l3] at h
        refine aw_seq ?_
        refine aw_seq ?_
        refine aw_region ?_
        refine awl_val hτ rfl rfl rfl ?_
        refine awl_val hτ rfl rfl rfl ?_
        refine awl_val hτ rfl rfl rfl ?_
        refine awl_nil ?_
        refine aw_cond rfl (fun hc122 => ?_) (fun hc122 => ?_)
        · have h := if_t h hc122
          refine aw_skip ?_
          refine aw_hk1 (ι := Int) (fun v125 => St.of [(5, .ptr 0 0), (6, .d (.int .i64 (x60.Buses.length : Int))), (9, .d (.int .i64 (w64 ((1 : Int) + x64)))), (10, .ptr 2 0), (11, .d (.bool x65.2)), (12, .ptr 4 0), (13, .d (.bool x66.2)), (14, .row 6 x67.1.length 0 x67.1.length), (15, .d (.bool x67.2)), (16, .d (.int .i64 x68.Parent)), (17, .d (.int .i64 v125)), (18, .d (.int .i64 v115))] [.box [.d (.cx .f32 x60.Source.A.re x60.Source.A.im), .d (.cx .f32 x60.Source.B.re x60.Source.B.im), .d (.cx .f32 x60.Source.C.re x60.Source.C.im), .row 1 x60.Buses.length 0 x60.Buses.length], .row 8 (x60.Buses.map eSBus), .box [.d (.cx .f32 x65.1.Source.A.re x65.1.Source.A.im), .d (.cx .f32 x65.1.Source.B.re x65.1.Source.B.im), .d (.cx .f32 x65.1.Source.C.re x65.1.Source.C.im), .row 3 x65.1.Buses.length 0 x65.1.Buses.length], .row 8 (x65.1.Buses.map eSBus), .box [.d (.cx .f32 x66.1.Source.A.re x66.1.Source.A.im), .d (.cx .f32 x66.1.Source.B.re x66.1.Source.B.im), .d (.cx .f32 x66.1.Source.C.re x66.1.Source.C.im), .row 5 x66.1.Buses.length 0 x66.1.Buses.length], .row 8 (x66.1.Buses.map eSBus), .row 1 (x67.1.map eInti64)] f4.ntmps 0) (fun v125 => m_laws_FnGrafted_j4 n (m_laws_FnGrafted_l3 n x60 x64 x65 x66 x67 x68 m120) v115 v125 = some r) ?_ (fun hk126 => ?_)
          · rintro v125 h
            replace h : m_laws_FnGrafted_j4 n (m_laws_FnGrafted_l3 n x60 x64 x65 x66 x67 x68 m120) v115 v125 = some r := h
            unfold m_laws_FnGrafted_j4 at h
            refine aw_region ?_
            refine awl_val hτ rfl rfl rfl ?_
            refine awl_val hτ rfl rfl rfl ?_
            refine awl_val hτ rfl rfl rfl ?_
            refine awl_nil ?_
            exact ⟨(m120, v125, (w64 (v115 + (1 : Int)))), h, Nat.lt_succ_self m120, (weak_ofP [0, 1, 2, 3, 4, 5, 6] (l := [(5, .ptr 0 0), (6, .d (.int .i64 (x60.Buses.length : Int))), (9, .d (.int .i64 (w64 ((1 : Int) + x64)))), (10, .ptr 2 0), (11, .d (.bool x65.2)), (12, .ptr 4 0), (13, .d (.bool x66.2)), (14, .row 6 x67.1.length 0 x67.1.length), (15, .d (.bool x67.2)), (16, .d (.int .i64 x68.Parent)), (17, .d (.int .i64 v125)), (18, .d (.int .i64 (w64 (v115 + (1 : Int)))))]) (objs := [.box [.d (.cx .f32 x60.Source.A.re x60.Source.A.im), .d (.cx .f32 x60.Source.B.re x60.Source.B.im), .d (.cx .f32 x60.Source.C.re x60.Source.C.im), .row 1 x60.Buses.length 0 x60.Buses.length], .row 8 (x60.Buses.map eSBus), .box [.d (.cx .f32 x65.1.Source.A.re x65.1.Source.A.im), .d (.cx .f32 x65.1.Source.B.re x65.1.Source.B.im), .d (.cx .f32 x65.1.Source.C.re x65.1.Source.C.im), .row 3 x65.1.Buses.length 0 x65.1.Buses.length], .row 8 (x65.1.Buses.map eSBus), .box [.d (.cx .f32 x66.1.Source.A.re x66.1.Source.A.im), .d (.cx .f32 x66.1.Source.B.re x66.1.Source.B.im), .d (.cx .f32 x66.1.Source.C.re x66.1.Source.C.im), .row 5 x66.1.Buses.length 0 x66.1.Buses.length], .row 8 (x66.1.Buses.map eSBus), .row 1 (x67.1.map eInti64)]) rfl (by simp) rfl (by repeat' first | exact trivial | refine ⟨?_, ?_⟩) ⟨rfl, trivial, rfl, trivial, rfl, trivial, rfl, trivial, rfl, trivial, rfl, trivial, rfl, trivial, rfl, trivial, rfl, trivial, rfl, trivial, rfl, trivial, rfl, trivial, trivial⟩)⟩
          · refine aw_seq ?_
            refine aw_block ?_
            refine aw_seq ?_
            refine aw_region ?_
            refine awl_val hτ rfl rfl rfl ?_
            refine awl_val hτ rfl rfl rfl ?_
            refine awl_weak (weak_ofP [0, 1, 2, 3, 4, 5, 6] (l := [(5, .ptr 0 0), (6, .d (.int .i64 (x60.Buses.length : Int))), (9, .d (.int .i64 (w64 ((1 : Int) + x64)))), (10, .ptr 2 0), (11, .d (.bool x65.2)), (12, .ptr 4 0), (13, .d (.bool x66.2)), (14, .row 6 x67.1.length 0 x67.1.length), (15, .d (.bool x67.2)), (16, .d (.int .i64 x68.Parent)), (17, .d (.int .i64 v114)), (18, .d (.int .i64 v115)), (84, .row 6 x67.1.length 0 x67.1.length), (85, .d (.int .i64 v115))]) (objs := [.box [.d (.cx .f32 x60.Source.A.re x60.Source.A.im), .d (.cx .f32 x60.Source.B.re x60.Source.B.im), .d (.cx .f32 x60.Source.C.re x60.Source.C.im), .row 1 x60.Buses.length 0 x60.Buses.length], .row 8 (x60.Buses.map eSBus), .box [.d (.cx .f32 x65.1.Source.A.re x65.1.Source.A.im), .d (.cx .f32 x65.1.Source.B.re x65.1.Source.B.im), .d (.cx .f32 x65.1.Source.C.re x65.1.Source.C.im), .row 3 x65.1.Buses.length 0 x65.1.Buses.length], .row 8 (x65.1.Buses.map eSBus), .box [.d (.cx .f32 x66.1.Source.A.re x66.1.Source.A.im), .d (.cx .f32 x66.1.Source.B.re x66.1.Source.B.im), .d (.cx .f32 x66.1.Source.C.re x66.1.Source.C.im), .row 5 x66.1.Buses.length 0 x66.1.Buses.length], .row 8 (x66.1.Buses.map eSBus), .row 1 (x67.1.map eInti64)]) rfl (by simp) rfl (by repeat' first | exact trivial | refine ⟨?_, ?_⟩) ⟨rfl, trivial, rfl, trivial, rfl, trivial, rfl, trivial, rfl, trivial, rfl, trivial, rfl, trivial, rfl, trivial, rfl, trivial, rfl, trivial, rfl, trivial, rfl, trivial, rfl, trivial, rfl, trivial, trivial⟩) ?_
            refine bnd_elim h fun x127 hx127 h => ?_
            refine awl_callP hτ true [] rfl rfl rfl (enterOk func21 rfl rfl) (mapO_cons (exV_view (f := eInti64) x67.1 rfl rfl rfl) (mapO_cons rfl mapO_nil)) rfl (by simp) ⟨(exVP_view (f := eInti64) x67.1 rfl rfl rfl), trivial, trivial⟩ (by repeat' first | exact trivial | refine ⟨?_, ?_⟩) (laws_r8In_ok_fr n x67.1 v115 hx127) ?_
            rintro r0 o0 n0 ⟨rfl, rfl, rfl⟩ -
            refine awl_val hτ rfl rfl rfl ?_
            refine awl_nil ?_
            refine aw_cond rfl (fun hc128 => ?_) (fun hc128 => ?_)
            · have hc128 := not_t hc128
              have h := if_bf h hc128
              refine aw_region ?_
              refine awl_val hτ rfl rfl rfl ?_
              refine awl_val hτ rfl rfl rfl ?_
              refine awl_val hτ rfl rfl rfl ?_
              refine awl_nil ?_
              refine aw_weak (weak_ofP [0, 1, 2, 3, 4, 5, 6] (l := [(5, .ptr 0 0), (6, .d (.int .i64 (x60.Buses.length : Int))), (9, .d (.int .i64 (w64 ((1 : Int) + x64)))), (10, .ptr 2 0), (11, .d (.bool x65.2)), (12, .ptr 4 0), (13, .d (.bool x66.2)), (14, .row 6 x67.1.length 0 x67.1.length), (15, .d (.bool x67.2)), (16, .d (.int .i64 x68.Parent)), (17, .d (.int .i64 (w64 (v114 + (1 : Int))))), (18, .d (.int .i64 v115))]) (objs := [.box [.d (.cx .f32 x60.Source.A.re x60.Source.A.im), .d (.cx .f32 x60.Source.B.re x60.Source.B.im), .d (.cx .f32 x60.Source.C.re x60.Source.C.im), .row 1 x60.Buses.length 0 x60.Buses.length], .row 8 (x60.Buses.map eSBus), .box [.d (.cx .f32 x65.1.Source.A.re x65.1.Source.A.im), .d (.cx .f32 x65.1.Source.B.re x65.1.Source.B.im), .d (.cx .f32 x65.1.Source.C.re x65.1.Source.C.im), .row 3 x65.1.Buses.length 0 x65.1.Buses.length], .row 8 (x65.1.Buses.map eSBus), .box [.d (.cx .f32 x66.1.Source.A.re x66.1.Source.A.im), .d (.cx .f32 x66.1.Source.B.re x66.1.Source.B.im), .d (.cx .f32 x66.1.Source.C.re x66.1.Source.C.im), .row 5 x66.1.Buses.length 0 x66.1.Buses.length], .row 8 (x66.1.Buses.map eSBus), .row 1 (x67.1.map eInti64)]) rfl (by simp) rfl (by repeat' first | exact trivial | refine ⟨?_, ?_⟩) ⟨rfl, trivial, rfl, trivial, rfl, trivial, rfl, trivial, rfl, trivial, rfl, trivial, rfl, trivial, rfl, trivial, rfl, trivial, rfl, trivial, rfl, trivial, rfl, trivial, trivial⟩) ?_
              exact hk126 (w64 (v114 + (1 : Int))) h
            · have hc128 := not_f hc128
              have h := if_bt h hc128
              refine aw_skip ?_
              refine aw_weak (weak_ofP [0, 1, 2, 3, 4, 5, 6] (l := [(5, .ptr 0 0), (6, .d (.int .i64 (x60.Buses.length : Int))), (9, .d (.int .i64 (w64 ((1 : Int) + x64)))), (10, .ptr 2 0), (11, .d (.bool x65.2)), (12, .ptr 4 0), (13, .d (.bool x66.2)), (14, .row 6 x67.1.length 0 x67.1.length), (15, .d (.bool x67.2)), (16, .d (.int .i64 x68.Parent)), (17, .d (.int .i64 v114)), (18, .d (.int .i64 v115))]) (objs := [.box [.d (.cx .f32 x60.Source.A.re x60.Source.A.im), .d (.cx .f32 x60.Source.B.re x60.Source.B.im), .d (.cx .f32 x60.Source.C.re x60.Source.C.im), .row 1 x60.Buses.length 0 x60.Buses.length], .row 8 (x60.Buses.map eSBus), .box [.d (.cx .f32 x65.1.Source.A.re x65.1.Source.A.im), .d (.cx .f32 x65.1.Source.B.re x65.1.Source.B.im), .d (.cx .f32 x65.1.Source.C.re x65.1.Source.C.im), .row 3 x65.1.Buses.length 0 x65.1.Buses.length], .row 8 (x65.1.Buses.map eSBus), .box [.d (.cx .f32 x66.1.Source.A.re x66.1.Source.A.im), .d (.cx .f32 x66.1.Source.B.re x66.1.Source.B.im), .d (.cx .f32 x66.1.Source.C.re x66.1.Source.C.im), .row 5 x66.1.Buses.length 0 x66.1.Buses.length], .row 8 (x66.1.Buses.map eSBus), .row 1 (x67.1.map eInti64)]) rfl (by simp) rfl (by repeat' first | exact trivial | refine ⟨?_, ?_⟩) ⟨rfl, trivial, rfl, trivial, rfl, trivial, rfl, trivial, rfl, trivial, rfl, trivial, rfl, trivial, rfl, trivial, rfl, trivial, rfl, trivial, rfl, trivial, rfl, trivial, trivial⟩) ?_
              exact hk126 v114 h
        · have h := if_f h hc122
          refine aw_exit ?_
          refine aw_weak (weak_ofP [0, 1, 2, 3, 4, 5, 6] (l := [(5, .ptr 0 0), (6, .d (.int .i64 (x60.Buses.length : Int))), (9, .d (.int .i64 (w64 ((1 : Int) + x64)))), (10, .ptr 2 0), (11, .d (.bool x65.2)), (12, .ptr 4 0), (13, .d (.bool x66.2)), (14, .row 6 x67.1.length 0 x67.1.length), (15, .d (.bool x67.2)), (17, .d (.int .i64 v114))]) (objs := [.box [.d (.cx .f32 x60.Source.A.re x60.Source.A.im), .d (.cx .f32 x60.Source.B.re x60.Source.B.im), .d (.cx .f32 x60.Source.C.re x60.Source.C.im), .row 1 x60.Buses.length 0 x60.Buses.length], .row 8 (x60.Buses.map eSBus), .box [.d (.cx .f32 x65.1.Source.A.re x65.1.Source.A.im), .d (.cx .f32 x65.1.Source.B.re x65.1.Source.B.im), .d (.cx .f32 x65.1.Source.C.re x65.1.Source.C.im), .row 3 x65.1.Buses.length 0 x65.1.Buses.length], .row 8 (x65.1.Buses.map eSBus), .box [.d (.cx .f32 x66.1.Source.A.re x66.1.Source.A.im), .d (.cx .f32 x66.1.Source.B.re x66.1.Source.B.im), .d (.cx .f32 x66.1.Source.C.re x66.1.Source.C.im), .row 5 x66.1.Buses.length 0 x66.1.Buses.length], .row 8 (x66.1.Buses.map eSBus), .row 1 (x67.1.map eInti64)]) rfl (by simp) rfl (by repeat' first | exact trivial | refine ⟨?_, ?_⟩) ⟨rfl, trivial, rfl, trivial, rfl, trivial, rfl, trivial, rfl, trivial, rfl, trivial, rfl, trivial, rfl, trivial, rfl, trivial, rfl, trivial, trivial⟩) ?_
          exact hk111 v114 h
theorem laws_FnGrafted_ok (n : Nat) (code_ : List Int) (more_ : List Int) {r : Bool} (h : m_laws_FnGrafted n code_ more_ = some r) : ACall prog false 4 [.d (.sl false (code_.map eIntu8)), .d (.sl false (more_.map eIntu8))] [] (fun v o new => v = .d (.bool r) ∧ o = [] ∧ new = []) := laws_FnGrafted_ok_fr0 false n code_ more_ h
theorem laws_FnGrafted_ok_fr (n : Nat) (code_ : List Int) (more_ : List Int) {r : Bool} (h : m_laws_FnGrafted n code_ more_ = some r) : ACall prog true 4 [.d (.sl false (code_.map eIntu8)), .d (.sl false (more_.map eIntu8))] [] (fun v o new => v = .d (.bool r) ∧ o = [] ∧ new = []) := laws_FnGrafted_ok_fr0 true n code_ more_ h

end Go.Proofs.Ytkagbffdmppbhaa.AWN
