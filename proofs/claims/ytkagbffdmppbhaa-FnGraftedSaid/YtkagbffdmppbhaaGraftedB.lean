/- Models and contracts, printed by program. -/
import Derived.Test.YtkagbffdmppbhaaGraftedA
set_option linter.unusedVariables false
set_option linter.unusedSimpArgs false
set_option maxHeartbeats 2000000
namespace Go.Proofs.Ytkagbffdmppbhaa.AWN
open Go Go.Proofs.Try

def m_impl_Feeder_kept_j1 (n : Nat) (source_ : SPhases) (v41 : List SBus) (v42 : List SBus) : Option SFeeder :=
  some (SFeeder.mk source_ v42)
def m_impl_Feeder_kept_j3 (n : Nat) (k65 : List SBus → List SBus → Int → Option SFeeder) (v51 : List SBus) (v53 : Int) (v74 : List SBus) : Option SFeeder :=
  k65 v51 v74 (w64 (v53 + (1 : Int)))
def m_impl_Feeder_kept_j4 (n : Nat) (k65 : List SBus → List SBus → Int → Option SFeeder) (v51 : List SBus) (v52 : List SBus) (v53 : Int) (x77 : SBus) (v82 : Int) (v83 : Cx) (v84 : Cx) : Option SFeeder :=
  grd (room (v52.length + 1) 64) <|
  m_impl_Feeder_kept_j3 n k65 v51 v53 (v52 ++ [(SBus.mk v82 v83 v84 x77.Kind x77.Load x77.Customers)])
def m_impl_Feeder_kept_l2 (n : Nat) (f_ : SFeeder) (source_ : SPhases) (buses_ : List Int) : Nat → List SBus → List SBus → Int → Option SFeeder
  | 0, _, _, _ => none
  | m64 + 1, v51, v52, v53 =>
    if v53 < (buses_.length : Int) then
      (getI buses_ v53).bind fun x76 =>
      (getI f_.Buses x76).bind fun x77 =>
      (m_slices_Index n buses_ x77.Parent).bind fun x78 =>
      if v53 = (0 : Int) then
        m_impl_Feeder_kept_j4 n (m_impl_Feeder_kept_l2 n f_ source_ buses_ m64) v51 v52 v53 x77 (-1 : Int) (Cx.mk (0 : Nat) (0 : Nat)) (Cx.mk (0 : Nat) (0 : Nat))
      else
        m_impl_Feeder_kept_j4 n (m_impl_Feeder_kept_l2 n f_ source_ buses_ m64) v51 v52 v53 x77 x78 x77.Own x77.Shared
    else
      m_impl_Feeder_kept_j1 n source_ v51 v52
def m_impl_Feeder_kept (n : Nat) (f_ : SFeeder) (source_ : SPhases) (buses_ : List Int) : Option SFeeder :=
  m_impl_Feeder_kept_l2 n f_ source_ buses_ n ([] : List SBus) ([] : List SBus) (0 : Int)
theorem impl_Feeder_kept_ok (n : Nat) (f_ : SFeeder) (source_ : SPhases) (buses_ : List Int) {r : SFeeder} (h : m_impl_Feeder_kept n f_ source_ buses_ = some r) : ACall prog false 87 [.ptr 0 0, .agg [.d (.cx .f32 source_.A.re source_.A.im), .d (.cx .f32 source_.B.re source_.B.im), .d (.cx .f32 source_.C.re source_.C.im)], .d (.sl false (buses_.map eInti64))] [.box [.d (.cx .f32 f_.Source.A.re f_.Source.A.im), .d (.cx .f32 f_.Source.B.re f_.Source.B.im), .d (.cx .f32 f_.Source.C.re f_.Source.C.im), .d (.sl false (f_.Buses.map eSBus))]] (fun v o new => v = .agg [.d (.cx .f32 r.Source.A.re r.Source.A.im), .d (.cx .f32 r.Source.B.re r.Source.B.im), .d (.cx .f32 r.Source.C.re r.Source.C.im), .row 1 r.Buses.length 0 r.Buses.length] ∧ o = [.box [.d (.cx .f32 f_.Source.A.re f_.Source.A.im), .d (.cx .f32 f_.Source.B.re f_.Source.B.im), .d (.cx .f32 f_.Source.C.re f_.Source.C.im), .d (.sl false (f_.Buses.map eSBus))]] ∧ new = [.row 8 (r.Buses.map eSBus)]) := by
  refine acall_of_aw hτ func87 rfl (by simp) (by simp) ?_
  unfold m_impl_Feeder_kept at h
  refine aw_seq ?_
  refine aw_region ?_
  refine awl_valH hτ rfl rfl rfl ?_
  refine awl_valH hτ rfl rfl rfl ?_
  refine awl_nil ?_
  refine aw_seq ?_
  refine aw_region ?_
  refine awl_val hτ rfl rfl rfl ?_
  refine awl_val hτ rfl rfl rfl ?_
  refine awl_valH hτ rfl rfl rfl ?_
  refine awl_valH hτ rfl rfl rfl ?_
  refine awl_nil ?_
  refine aw_hk1 (ι := List SBus × List SBus) (fun (v41, v42) => St.of [(6, .ptr 1 0), (7, .ptr 3 0)] [.box [.d (.cx .f32 f_.Source.A.re f_.Source.A.im), .d (.cx .f32 f_.Source.B.re f_.Source.B.im), .d (.cx .f32 f_.Source.C.re f_.Source.C.im), .d (.sl false (f_.Buses.map eSBus))], .box [.d (.cx .f32 (0 : Nat) (0 : Nat)), .d (.cx .f32 (0 : Nat) (0 : Nat)), .d (.cx .f32 (0 : Nat) (0 : Nat)), .row 2 v41.length 0 v41.length], .row 8 (v41.map eSBus), .box [.d (.cx .f32 source_.A.re source_.A.im), .d (.cx .f32 source_.B.re source_.B.im), .d (.cx .f32 source_.C.re source_.C.im), .row 4 v42.length 0 v42.length], .row 8 (v42.map eSBus)] f87.ntmps 1) (fun (v41, v42) => m_impl_Feeder_kept_j1 n source_ v41 v42 = some r) ?_ (fun hk43 => ?_)
  · rintro ⟨v41, v42⟩ h
    replace h : m_impl_Feeder_kept_j1 n source_ v41 v42 = some r := h
    unfold m_impl_Feeder_kept_j1 at h
    refine aw_seq ?_
    refine aw_region ?_
    refine awl_val hτ rfl rfl rfl ?_
    refine awl_valH hτ rfl rfl rfl ?_
    refine awl_nil ?_
    refine aw_weak (weak_ofP [0, 1, 4] (l := [(6, .ptr 1 0)]) (objs := [.box [.d (.cx .f32 f_.Source.A.re f_.Source.A.im), .d (.cx .f32 f_.Source.B.re f_.Source.B.im), .d (.cx .f32 f_.Source.C.re f_.Source.C.im), .d (.sl false (f_.Buses.map eSBus))], .box [.d (.cx .f32 source_.A.re source_.A.im), .d (.cx .f32 source_.B.re source_.B.im), .d (.cx .f32 source_.C.re source_.C.im), .row 2 v42.length 0 v42.length], .row 8 (v42.map eSBus)]) rfl (by simp) rfl (by repeat' first | exact trivial | refine ⟨?_, ?_⟩) ⟨rfl, trivial, trivial⟩) ?_
    refine aw_ret ?_
    have hr := Option.some.inj h
    subst hr
    exact ret_objs (.inr rfl) [2] (objs' := [.box [.d (.cx .f32 f_.Source.A.re f_.Source.A.im), .d (.cx .f32 f_.Source.B.re f_.Source.B.im), .d (.cx .f32 f_.Source.C.re f_.Source.C.im), .d (.sl false (f_.Buses.map eSBus))]]) (new := [.row 8 (v42.map eSBus)]) rfl (by simp) (by simp) rfl (by repeat' first | exact trivial | refine ⟨?_, ?_⟩) rfl rfl (by repeat' first | exact trivial | refine ⟨?_, ?_⟩) (fun h => nomatch h) ⟨rfl, rfl, rfl⟩
  · refine aw_seq ?_
    refine aw_seq ?_
    refine aw_weak (weak_ofP [0, 2, 3] (l := [(0, .ptr 0 0), (2, .d (.sl false (buses_.map eInti64))), (6, .ptr 1 0), (7, .ptr 2 0)]) (objs := [.box [.d (.cx .f32 f_.Source.A.re f_.Source.A.im), .d (.cx .f32 f_.Source.B.re f_.Source.B.im), .d (.cx .f32 f_.Source.C.re f_.Source.C.im), .d (.sl false (f_.Buses.map eSBus))], .box [.d (.cx .f32 (0 : Nat) (0 : Nat)), .d (.cx .f32 (0 : Nat) (0 : Nat)), .d (.cx .f32 (0 : Nat) (0 : Nat)), .d (.nils)], .box [.d (.cx .f32 source_.A.re source_.A.im), .d (.cx .f32 source_.B.re source_.B.im), .d (.cx .f32 source_.C.re source_.C.im), .d (.nils)]]) rfl (by simp) rfl (by repeat' first | exact trivial | refine ⟨?_, ?_⟩) ⟨rfl, trivial, rfl, trivial, rfl, trivial, rfl, trivial, trivial⟩) ?_
    refine aw_region ?_
    refine awl_val hτ rfl rfl rfl ?_
    refine awl_val hτ (v := .d (.int .i64 (buses_.length : Int))) rfl rfl (Eq.trans rfl (or_len (f := eInti64) buses_)) ?_
    refine awl_val hτ rfl rfl rfl ?_
    refine awl_nil ?_
    refine aw_block ?_
    refine aw_loop (ι := Nat × List SBus × List SBus × Int) (fun (m64, v51, v52, v53) => St.of [(0, .ptr 0 0), (2, .d (.sl false (buses_.map eInti64))), (6, .ptr 1 0), (7, .ptr 3 0), (13, .d (.sl false (buses_.map eInti64))), (14, .d (.int .i64 (buses_.length : Int))), (15, .d (.int .i64 v53))] [.box [.d (.cx .f32 f_.Source.A.re f_.Source.A.im), .d (.cx .f32 f_.Source.B.re f_.Source.B.im), .d (.cx .f32 f_.Source.C.re f_.Source.C.im), .d (.sl false (f_.Buses.map eSBus))], .box [.d (.cx .f32 (0 : Nat) (0 : Nat)), .d (.cx .f32 (0 : Nat) (0 : Nat)), .d (.cx .f32 (0 : Nat) (0 : Nat)), .row 2 v51.length 0 v51.length], .row 8 (v51.map eSBus), .box [.d (.cx .f32 source_.A.re source_.A.im), .d (.cx .f32 source_.B.re source_.B.im), .d (.cx .f32 source_.C.re source_.C.im), .row 4 v52.length 0 v52.length], .row 8 (v52.map eSBus)] f87.ntmps 1) (fun (m64, v51, v52, v53) => m_impl_Feeder_kept_l2 n f_ source_ buses_ m64 v51 v52 v53 = some r) (fun x => x.1) (n, ([] : List SBus), ([] : List SBus), (0 : Int)) h (Weak.trans (Weak.trans (weak_ofP [0, 1, 2] (l := [(0, .ptr 0 0), (2, .d (.sl false (buses_.map eInti64))), (6, .ptr 1 0), (7, .ptr 2 0), (13, .d (.sl false (buses_.map eInti64))), (14, .d (.int .i64 (buses_.length : Int))), (15, .d (.int .i64 (0 : Int)))]) (objs := [.box [.d (.cx .f32 f_.Source.A.re f_.Source.A.im), .d (.cx .f32 f_.Source.B.re f_.Source.B.im), .d (.cx .f32 f_.Source.C.re f_.Source.C.im), .d (.sl false (f_.Buses.map eSBus))], .box [.d (.cx .f32 (0 : Nat) (0 : Nat)), .d (.cx .f32 (0 : Nat) (0 : Nat)), .d (.cx .f32 (0 : Nat) (0 : Nat)), .d (.nils)], .box [.d (.cx .f32 source_.A.re source_.A.im), .d (.cx .f32 source_.B.re source_.B.im), .d (.cx .f32 source_.C.re source_.C.im), .d (.nils)]]) rfl (by simp) rfl (by repeat' first | exact trivial | refine ⟨?_, ?_⟩) ⟨rfl, trivial, rfl, trivial, rfl, trivial, rfl, trivial, rfl, trivial, rfl, trivial, rfl, trivial, trivial⟩) (weak_relax [8, 8] (l' := [(0, .ptr 0 0), (2, .d (.sl false (buses_.map eInti64))), (6, .ptr 1 0), (7, .ptr 2 0), (13, .d (.sl false (buses_.map eInti64))), (14, .d (.int .i64 (buses_.length : Int))), (15, .d (.int .i64 (0 : Int)))]) (objs' := [.box [.d (.cx .f32 f_.Source.A.re f_.Source.A.im), .d (.cx .f32 f_.Source.B.re f_.Source.B.im), .d (.cx .f32 f_.Source.C.re f_.Source.C.im), .d (.sl false (f_.Buses.map eSBus))], .box [.d (.cx .f32 (0 : Nat) (0 : Nat)), .d (.cx .f32 (0 : Nat) (0 : Nat)), .d (.cx .f32 (0 : Nat) (0 : Nat)), .row 3 (([] : List SBus).length) 0 (([] : List SBus).length)], .box [.d (.cx .f32 source_.A.re source_.A.im), .d (.cx .f32 source_.B.re source_.B.im), .d (.cx .f32 source_.C.re source_.C.im), .row 4 (([] : List SBus).length) 0 (([] : List SBus).length)]]) (.cons (.c (.refl _)) (.cons (.c (.refl _)) (.cons (.c (.refl _)) (.cons (.c (.refl _)) (.cons (.c (.refl _)) (.cons (.c (.refl _)) (.cons (.c (.refl _)) .nil))))))) (.cons (.refl _) (.cons (.box (.cons (.refl _) (.cons (.refl _) (.cons (.refl _) (.cons (.ghost ⟨Nat.le_of_ble_eq_true rfl, Nat.le_of_ble_eq_true rfl⟩) .nil))))) (.cons (.box (.cons (.refl _) (.cons (.refl _) (.cons (.refl _) (.cons (.ghost ⟨Nat.le_of_ble_eq_true rfl, Nat.le_of_ble_eq_true rfl⟩) .nil))))) .nil))))) (weak_ofP [0, 1, 3, 2, 4] (l := [(0, .ptr 0 0), (2, .d (.sl false (buses_.map eInti64))), (6, .ptr 1 0), (7, .ptr 3 0), (13, .d (.sl false (buses_.map eInti64))), (14, .d (.int .i64 (buses_.length : Int))), (15, .d (.int .i64 (0 : Int)))]) (objs := [.box [.d (.cx .f32 f_.Source.A.re f_.Source.A.im), .d (.cx .f32 f_.Source.B.re f_.Source.B.im), .d (.cx .f32 f_.Source.C.re f_.Source.C.im), .d (.sl false (f_.Buses.map eSBus))], .box [.d (.cx .f32 (0 : Nat) (0 : Nat)), .d (.cx .f32 (0 : Nat) (0 : Nat)), .d (.cx .f32 (0 : Nat) (0 : Nat)), .row 2 (([] : List SBus).length) 0 (([] : List SBus).length)], .row 8 (([] : List SBus).map eSBus), .box [.d (.cx .f32 source_.A.re source_.A.im), .d (.cx .f32 source_.B.re source_.B.im), .d (.cx .f32 source_.C.re source_.C.im), .row 4 (([] : List SBus).length) 0 (([] : List SBus).length)], .row 8 (([] : List SBus).map eSBus)]) rfl (by simp) rfl (by repeat' first | exact trivial | refine ⟨?_, ?_⟩) ⟨rfl, trivial, rfl, trivial, rfl, trivial, rfl, trivial, rfl, trivial, rfl, trivial, rfl, trivial, trivial⟩)) ?_
    rintro ⟨m64, v51, v52, v53⟩ h
    replace h : m_impl_Feeder_kept_l2 n f_ source_ buses_ m64 v51 v52 v53 = some r := h
    rcases m64 with _ | m64
    · rw [m_impl_Feeder_kept_l2] at h; cases h
    rw [m_impl_Feeder_kept_l2] at h
    refine aw_seq ?_
    refine aw_region ?_
    refine awl_val hτ rfl rfl rfl ?_
    refine awl_nil ?_
    refine aw_seq ?_
    refine aw_cond rfl (fun hc66 => ?_) (fun hc66 => ?_)
    · have h := if_t h hc66
      refine aw_skip ?_
      refine aw_hk1 (ι := List SBus) (fun v74 => St.of [(0, .ptr 0 0), (2, .d (.sl false (buses_.map eInti64))), (6, .ptr 1 0), (7, .ptr 3 0), (13, .d (.sl false (buses_.map eInti64))), (14, .d (.int .i64 (buses_.length : Int))), (15, .d (.int .i64 v53))] [.box [.d (.cx .f32 f_.Source.A.re f_.Source.A.im), .d (.cx .f32 f_.Source.B.re f_.Source.B.im), .d (.cx .f32 f_.Source.C.re f_.Source.C.im), .d (.sl false (f_.Buses.map eSBus))], .box [.d (.cx .f32 (0 : Nat) (0 : Nat)), .d (.cx .f32 (0 : Nat) (0 : Nat)), .d (.cx .f32 (0 : Nat) (0 : Nat)), .row 2 v51.length 0 v51.length], .row 8 (v51.map eSBus), .box [.d (.cx .f32 source_.A.re source_.A.im), .d (.cx .f32 source_.B.re source_.B.im), .d (.cx .f32 source_.C.re source_.C.im), .row 4 v74.length 0 v74.length], .row 8 (v74.map eSBus)] f87.ntmps 1) (fun v74 => m_impl_Feeder_kept_j3 n (m_impl_Feeder_kept_l2 n f_ source_ buses_ m64) v51 v53 v74 = some r) ?_ (fun hk75 => ?_)
      · rintro v74 h
        replace h : m_impl_Feeder_kept_j3 n (m_impl_Feeder_kept_l2 n f_ source_ buses_ m64) v51 v53 v74 = some r := h
        unfold m_impl_Feeder_kept_j3 at h
        refine aw_region ?_
        refine awl_val hτ rfl rfl rfl ?_
        refine awl_val hτ rfl rfl rfl ?_
        refine awl_nil ?_
        exact ⟨(m64, v51, v74, (w64 (v53 + (1 : Int)))), h, Nat.lt_succ_self m64, (weak_ofP [0, 1, 2, 3, 4] (l := [(0, .ptr 0 0), (2, .d (.sl false (buses_.map eInti64))), (6, .ptr 1 0), (7, .ptr 3 0), (13, .d (.sl false (buses_.map eInti64))), (14, .d (.int .i64 (buses_.length : Int))), (15, .d (.int .i64 (w64 (v53 + (1 : Int)))))]) (objs := [.box [.d (.cx .f32 f_.Source.A.re f_.Source.A.im), .d (.cx .f32 f_.Source.B.re f_.Source.B.im), .d (.cx .f32 f_.Source.C.re f_.Source.C.im), .d (.sl false (f_.Buses.map eSBus))], .box [.d (.cx .f32 (0 : Nat) (0 : Nat)), .d (.cx .f32 (0 : Nat) (0 : Nat)), .d (.cx .f32 (0 : Nat) (0 : Nat)), .row 2 v51.length 0 v51.length], .row 8 (v51.map eSBus), .box [.d (.cx .f32 source_.A.re source_.A.im), .d (.cx .f32 source_.B.re source_.B.im), .d (.cx .f32 source_.C.re source_.C.im), .row 4 v74.length 0 v74.length], .row 8 (v74.map eSBus)]) rfl (by simp) rfl (by repeat' first | exact trivial | refine ⟨?_, ?_⟩) ⟨rfl, trivial, rfl, trivial, rfl, trivial, rfl, trivial, rfl, trivial, rfl, trivial, rfl, trivial, trivial⟩)⟩
      · refine aw_seq ?_
        refine aw_block ?_
        refine aw_seq ?_
        refine aw_region ?_
        refine awl_val hτ rfl rfl rfl ?_
        refine bnd_elim h fun x76 hx76 h => ?_
        refine awl_elem hτ rfl rfl rfl (getI_some hx76).1 (map_getI hx76) rfl ?_
        refine awl_val hτ rfl rfl rfl ?_
        refine awl_val hτ rfl rfl rfl ?_
        refine awl_val hτ rfl rfl rfl ?_
        refine awl_nil ?_
        refine aw_seq ?_
        refine aw_weak (weak_ofP [0, 1, 2, 3, 4] (l := [(0, .ptr 0 0), (2, .d (.sl false (buses_.map eInti64))), (6, .ptr 1 0), (7, .ptr 3 0), (8, .d (.int .i64 v53)), (9, .d (.int .i64 x76)), (13, .d (.sl false (buses_.map eInti64))), (14, .d (.int .i64 (buses_.length : Int))), (15, .d (.int .i64 v53))]) (objs := [.box [.d (.cx .f32 f_.Source.A.re f_.Source.A.im), .d (.cx .f32 f_.Source.B.re f_.Source.B.im), .d (.cx .f32 f_.Source.C.re f_.Source.C.im), .d (.sl false (f_.Buses.map eSBus))], .box [.d (.cx .f32 (0 : Nat) (0 : Nat)), .d (.cx .f32 (0 : Nat) (0 : Nat)), .d (.cx .f32 (0 : Nat) (0 : Nat)), .row 2 v51.length 0 v51.length], .row 8 (v51.map eSBus), .box [.d (.cx .f32 source_.A.re source_.A.im), .d (.cx .f32 source_.B.re source_.B.im), .d (.cx .f32 source_.C.re source_.C.im), .row 4 v52.length 0 v52.length], .row 8 (v52.map eSBus)]) rfl (by simp) rfl (by repeat' first | exact trivial | refine ⟨?_, ?_⟩) ⟨rfl, trivial, rfl, trivial, rfl, trivial, rfl, trivial, rfl, trivial, rfl, trivial, rfl, trivial, rfl, trivial, rfl, trivial, trivial⟩) ?_
        refine aw_region ?_
        refine awl_val hτ rfl rfl rfl ?_
        refine awl_val hτ rfl rfl rfl ?_
        refine awl_val hτ rfl rfl rfl ?_
        refine awl_val hτ rfl rfl rfl ?_
        refine awl_val hτ rfl rfl rfl ?_
        refine bnd_elim h fun x77 hx77 h => ?_
        refine awl_elem hτ rfl rfl rfl (getI_some hx77).1 (map_getI hx77) rfl ?_
        refine awl_val hτ rfl rfl rfl ?_
        refine awl_valH hτ rfl rfl rfl ?_
        refine awl_valH hτ rfl rfl rfl ?_
        refine awl_nil ?_
        refine aw_seq ?_
        refine aw_weak (weak_ofP [0, 1, 2, 3, 4, 5] (l := [(0, .ptr 0 0), (2, .d (.sl false (buses_.map eInti64))), (6, .ptr 1 0), (7, .ptr 3 0), (8, .d (.int .i64 v53)), (10, .ptr 5 0), (13, .d (.sl false (buses_.map eInti64))), (14, .d (.int .i64 (buses_.length : Int))), (15, .d (.int .i64 v53))]) (objs := [.box [.d (.cx .f32 f_.Source.A.re f_.Source.A.im), .d (.cx .f32 f_.Source.B.re f_.Source.B.im), .d (.cx .f32 f_.Source.C.re f_.Source.C.im), .d (.sl false (f_.Buses.map eSBus))], .box [.d (.cx .f32 (0 : Nat) (0 : Nat)), .d (.cx .f32 (0 : Nat) (0 : Nat)), .d (.cx .f32 (0 : Nat) (0 : Nat)), .row 2 v51.length 0 v51.length], .row 8 (v51.map eSBus), .box [.d (.cx .f32 source_.A.re source_.A.im), .d (.cx .f32 source_.B.re source_.B.im), .d (.cx .f32 source_.C.re source_.C.im), .row 4 v52.length 0 v52.length], .row 8 (v52.map eSBus), .box [.d (.int .i64 x77.Parent), .d (.cx .f32 x77.Own.re x77.Own.im), .d (.cx .f32 x77.Shared.re x77.Shared.im), .d (.int .i64 x77.Kind), .d (.cx .f32 x77.Load.A.re x77.Load.A.im), .d (.cx .f32 x77.Load.B.re x77.Load.B.im), .d (.cx .f32 x77.Load.C.re x77.Load.C.im), .d (.int .i64 x77.Customers)]]) rfl (by simp) rfl (by repeat' first | exact trivial | refine ⟨?_, ?_⟩) ⟨rfl, trivial, rfl, trivial, rfl, trivial, rfl, trivial, rfl, trivial, rfl, trivial, rfl, trivial, rfl, trivial, rfl, trivial, trivial⟩) ?_
        refine aw_region ?_
        refine awl_val hτ rfl rfl rfl ?_
        refine awl_val hτ rfl rfl rfl ?_
        refine awl_val hτ rfl rfl rfl ?_
        refine bnd_elim h fun x78 hx78 h => ?_
        refine awl_callP hτ false [] rfl rfl rfl (enterOk func145 rfl rfl) rfl rfl (by simp) ⟨trivial, trivial, trivial⟩ (by repeat' first | exact trivial | refine ⟨?_, ?_⟩) (slices_Index_ok n buses_ x77.Parent hx78) ?_
        rintro r0 o0 n0 ⟨rfl, rfl, rfl⟩ -
        refine awl_val hτ rfl rfl rfl ?_
        refine awl_valH hτ rfl rfl rfl ?_
        refine awl_nil ?_
        refine aw_hk1 (ι := Int × Cx × Cx) (fun (v82, v83, v84) => St.of [(0, .ptr 0 0), (2, .d (.sl false (buses_.map eInti64))), (6, .ptr 1 0), (7, .ptr 3 0), (10, .ptr 5 0), (13, .d (.sl false (buses_.map eInti64))), (14, .d (.int .i64 (buses_.length : Int))), (15, .d (.int .i64 v53))] [.box [.d (.cx .f32 f_.Source.A.re f_.Source.A.im), .d (.cx .f32 f_.Source.B.re f_.Source.B.im), .d (.cx .f32 f_.Source.C.re f_.Source.C.im), .d (.sl false (f_.Buses.map eSBus))], .box [.d (.cx .f32 (0 : Nat) (0 : Nat)), .d (.cx .f32 (0 : Nat) (0 : Nat)), .d (.cx .f32 (0 : Nat) (0 : Nat)), .row 2 v51.length 0 v51.length], .row 8 (v51.map eSBus), .box [.d (.cx .f32 source_.A.re source_.A.im), .d (.cx .f32 source_.B.re source_.B.im), .d (.cx .f32 source_.C.re source_.C.im), .row 4 v52.length 0 v52.length], .row 8 (v52.map eSBus), .box [.d (.int .i64 v82), .d (.cx .f32 v83.re v83.im), .d (.cx .f32 v84.re v84.im), .d (.int .i64 x77.Kind), .d (.cx .f32 x77.Load.A.re x77.Load.A.im), .d (.cx .f32 x77.Load.B.re x77.Load.B.im), .d (.cx .f32 x77.Load.C.re x77.Load.C.im), .d (.int .i64 x77.Customers)]] f87.ntmps 1) (fun (v82, v83, v84) => m_impl_Feeder_kept_j4 n (m_impl_Feeder_kept_l2 n f_ source_ buses_ m64) v51 v52 v53 x77 v82 v83 v84 = some r) ?_ (fun hk86 => ?_)
        · rintro ⟨v82, v83, v84⟩ h
          replace h : m_impl_Feeder_kept_j4 n (m_impl_Feeder_kept_l2 n f_ source_ buses_ m64) v51 v52 v53 x77 v82 v83 v84 = some r := h
          unfold m_impl_Feeder_kept_j4 at h
          refine aw_region ?_
          refine awl_val hτ rfl rfl rfl ?_
          refine awl_val hτ rfl rfl rfl ?_
          refine awl_val hτ rfl rfl rfl ?_
          refine awl_valH hτ rfl rfl rfl ?_
          refine grd_elim h fun hg85 h => ?_
          refine awl_needH hτ rfl rfl (Eq.trans rfl (or_append (f := eSBus) v52 [(SBus.mk v82 v83 v84 x77.Kind x77.Load x77.Customers)] rfl)) ⟨⟨rfl, Nat.le_of_ble_eq_true rfl⟩, len_map _, rfl, rfl, hg85, by decide, (all1 rfl)⟩ ?_
          refine awl_val hτ rfl rfl rfl ?_
          refine awl_valH hτ rfl rfl rfl ?_
          refine awl_nil ?_
          refine aw_weak (weak_ofP [0, 1, 2, 3, 4] (l := [(0, .ptr 0 0), (2, .d (.sl false (buses_.map eInti64))), (6, .ptr 1 0), (7, .ptr 3 0), (13, .d (.sl false (buses_.map eInti64))), (14, .d (.int .i64 (buses_.length : Int))), (15, .d (.int .i64 v53))]) (objs := [.box [.d (.cx .f32 f_.Source.A.re f_.Source.A.im), .d (.cx .f32 f_.Source.B.re f_.Source.B.im), .d (.cx .f32 f_.Source.C.re f_.Source.C.im), .d (.sl false (f_.Buses.map eSBus))], .box [.d (.cx .f32 (0 : Nat) (0 : Nat)), .d (.cx .f32 (0 : Nat) (0 : Nat)), .d (.cx .f32 (0 : Nat) (0 : Nat)), .row 2 v51.length 0 v51.length], .row 8 (v51.map eSBus), .box [.d (.cx .f32 source_.A.re source_.A.im), .d (.cx .f32 source_.B.re source_.B.im), .d (.cx .f32 source_.C.re source_.C.im), .row 4 ((v52 ++ [(SBus.mk v82 v83 v84 x77.Kind x77.Load x77.Customers)]).length) 0 ((v52 ++ [(SBus.mk v82 v83 v84 x77.Kind x77.Load x77.Customers)]).length)], .row 8 ((v52 ++ [(SBus.mk v82 v83 v84 x77.Kind x77.Load x77.Customers)]).map eSBus)]) rfl (by simp) rfl (by repeat' first | exact trivial | refine ⟨?_, ?_⟩) ⟨rfl, trivial, rfl, trivial, rfl, trivial, rfl, trivial, rfl, trivial, rfl, trivial, rfl, trivial, trivial⟩) ?_
          exact hk75 (v52 ++ [(SBus.mk v82 v83 v84 x77.Kind x77.Load x77.Customers)]) h
        · refine aw_seq ?_
          refine aw_seq ?_
          refine aw_weak (weak_ofP [0, 1, 2, 3, 4, 5] (l := [(0, .ptr 0 0), (2, .d (.sl false (buses_.map eInti64))), (6, .ptr 1 0), (7, .ptr 3 0), (8, .d (.int .i64 v53)), (10, .ptr 5 0), (13, .d (.sl false (buses_.map eInti64))), (14, .d (.int .i64 (buses_.length : Int))), (15, .d (.int .i64 v53))]) (objs := [.box [.d (.cx .f32 f_.Source.A.re f_.Source.A.im), .d (.cx .f32 f_.Source.B.re f_.Source.B.im), .d (.cx .f32 f_.Source.C.re f_.Source.C.im), .d (.sl false (f_.Buses.map eSBus))], .box [.d (.cx .f32 (0 : Nat) (0 : Nat)), .d (.cx .f32 (0 : Nat) (0 : Nat)), .d (.cx .f32 (0 : Nat) (0 : Nat)), .row 2 v51.length 0 v51.length], .row 8 (v51.map eSBus), .box [.d (.cx .f32 source_.A.re source_.A.im), .d (.cx .f32 source_.B.re source_.B.im), .d (.cx .f32 source_.C.re source_.C.im), .row 4 v52.length 0 v52.length], .row 8 (v52.map eSBus), .box [.d (.int .i64 x78), .d (.cx .f32 x77.Own.re x77.Own.im), .d (.cx .f32 x77.Shared.re x77.Shared.im), .d (.int .i64 x77.Kind), .d (.cx .f32 x77.Load.A.re x77.Load.A.im), .d (.cx .f32 x77.Load.B.re x77.Load.B.im), .d (.cx .f32 x77.Load.C.re x77.Load.C.im), .d (.int .i64 x77.Customers)]]) rfl (by simp) rfl (by repeat' first | exact trivial | refine ⟨?_, ?_⟩) ⟨rfl, trivial, rfl, trivial, rfl, trivial, rfl, trivial, rfl, trivial, rfl, trivial, rfl, trivial, rfl, trivial, rfl, trivial, trivial⟩) ?_
          refine aw_region ?_
          refine awl_val hτ rfl rfl rfl ?_
          refine awl_val hτ (v := .d (.bool (decide (v53 = (0 : Int))))) rfl rfl (or_ieq _ _) ?_
          refine awl_nil ?_
          refine aw_cond rfl (fun hc87 => ?_) (fun hc87 => ?_)
          · have h := if_t h hc87
            refine aw_region ?_
            refine awl_val hτ rfl rfl rfl ?_
            refine awl_valH hτ rfl rfl rfl ?_
            refine awl_val hτ rfl rfl rfl ?_
            refine awl_valH hτ rfl rfl rfl ?_
            refine awl_val hτ rfl rfl rfl ?_
            refine awl_valH hτ rfl rfl rfl ?_
            refine awl_nil ?_
            refine aw_weak (weak_ofP [0, 1, 2, 3, 4, 5] (l := [(0, .ptr 0 0), (2, .d (.sl false (buses_.map eInti64))), (6, .ptr 1 0), (7, .ptr 3 0), (10, .ptr 5 0), (13, .d (.sl false (buses_.map eInti64))), (14, .d (.int .i64 (buses_.length : Int))), (15, .d (.int .i64 v53))]) (objs := [.box [.d (.cx .f32 f_.Source.A.re f_.Source.A.im), .d (.cx .f32 f_.Source.B.re f_.Source.B.im), .d (.cx .f32 f_.Source.C.re f_.Source.C.im), .d (.sl false (f_.Buses.map eSBus))], .box [.d (.cx .f32 (0 : Nat) (0 : Nat)), .d (.cx .f32 (0 : Nat) (0 : Nat)), .d (.cx .f32 (0 : Nat) (0 : Nat)), .row 2 v51.length 0 v51.length], .row 8 (v51.map eSBus), .box [.d (.cx .f32 source_.A.re source_.A.im), .d (.cx .f32 source_.B.re source_.B.im), .d (.cx .f32 source_.C.re source_.C.im), .row 4 v52.length 0 v52.length], .row 8 (v52.map eSBus), .box [.d (.int .i64 (-1 : Int)), .d (.cx .f32 (0 : Nat) (0 : Nat)), .d (.cx .f32 (0 : Nat) (0 : Nat)), .d (.int .i64 x77.Kind), .d (.cx .f32 x77.Load.A.re x77.Load.A.im), .d (.cx .f32 x77.Load.B.re x77.Load.B.im), .d (.cx .f32 x77.Load.C.re x77.Load.C.im), .d (.int .i64 x77.Customers)]]) rfl (by simp) rfl (by repeat' first | exact trivial | refine ⟨?_, ?_⟩) ⟨rfl, trivial, rfl, trivial, rfl, trivial, rfl, trivial, rfl, trivial, rfl, trivial, rfl, trivial, rfl, trivial, trivial⟩) ?_
            exact hk86 ((-1 : Int), (Cx.mk (0 : Nat) (0 : Nat)), (Cx.mk (0 : Nat) (0 : Nat))) h
          · have h := if_f h hc87
            refine aw_skip ?_
            refine aw_weak (weak_ofP [0, 1, 2, 3, 4, 5] (l := [(0, .ptr 0 0), (2, .d (.sl false (buses_.map eInti64))), (6, .ptr 1 0), (7, .ptr 3 0), (10, .ptr 5 0), (13, .d (.sl false (buses_.map eInti64))), (14, .d (.int .i64 (buses_.length : Int))), (15, .d (.int .i64 v53))]) (objs := [.box [.d (.cx .f32 f_.Source.A.re f_.Source.A.im), .d (.cx .f32 f_.Source.B.re f_.Source.B.im), .d (.cx .f32 f_.Source.C.re f_.Source.C.im), .d (.sl false (f_.Buses.map eSBus))], .box [.d (.cx .f32 (0 : Nat) (0 : Nat)), .d (.cx .f32 (0 : Nat) (0 : Nat)), .d (.cx .f32 (0 : Nat) (0 : Nat)), .row 2 v51.length 0 v51.length], .row 8 (v51.map eSBus), .box [.d (.cx .f32 source_.A.re source_.A.im), .d (.cx .f32 source_.B.re source_.B.im), .d (.cx .f32 source_.C.re source_.C.im), .row 4 v52.length 0 v52.length], .row 8 (v52.map eSBus), .box [.d (.int .i64 x78), .d (.cx .f32 x77.Own.re x77.Own.im), .d (.cx .f32 x77.Shared.re x77.Shared.im), .d (.int .i64 x77.Kind), .d (.cx .f32 x77.Load.A.re x77.Load.A.im), .d (.cx .f32 x77.Load.B.re x77.Load.B.im), .d (.cx .f32 x77.Load.C.re x77.Load.C.im), .d (.int .i64 x77.Customers)]]) rfl (by simp) rfl (by repeat' first | exact trivial | refine ⟨?_, ?_⟩) ⟨rfl, trivial, rfl, trivial, rfl, trivial, rfl, trivial, rfl, trivial, rfl, trivial, rfl, trivial, rfl, trivial, trivial⟩) ?_
            exact hk86 (x78, x77.Own, x77.Shared) h
    · have h := if_f h hc66
      refine aw_exit ?_
      refine aw_weak (weak_ofP [0, 1, 2, 3, 4] (l := [(6, .ptr 1 0), (7, .ptr 3 0)]) (objs := [.box [.d (.cx .f32 f_.Source.A.re f_.Source.A.im), .d (.cx .f32 f_.Source.B.re f_.Source.B.im), .d (.cx .f32 f_.Source.C.re f_.Source.C.im), .d (.sl false (f_.Buses.map eSBus))], .box [.d (.cx .f32 (0 : Nat) (0 : Nat)), .d (.cx .f32 (0 : Nat) (0 : Nat)), .d (.cx .f32 (0 : Nat) (0 : Nat)), .row 2 v51.length 0 v51.length], .row 8 (v51.map eSBus), .box [.d (.cx .f32 source_.A.re source_.A.im), .d (.cx .f32 source_.B.re source_.B.im), .d (.cx .f32 source_.C.re source_.C.im), .row 4 v52.length 0 v52.length], .row 8 (v52.map eSBus)]) rfl (by simp) rfl (by repeat' first | exact trivial | refine ⟨?_, ?_⟩) ⟨rfl, trivial, rfl, trivial, trivial⟩) ?_
      exact hk43 (v51, v52) h

def m_impl_CutFeeder_j2 (n : Nat) (f_ : SFeeder) (v32 : List Int) : Option (SFeeder × Bool) :=
  (m_impl_Feeder_kept n f_ f_.Source v32).bind fun x33 =>
  (getI f_.Buses (0 : Int)).bind fun x34 =>
  (getI x33.Buses (0 : Int)).bind fun x35 =>
  some ((SFeeder.mk x33.Source (x33.Buses.set (0 : Int).toNat x34)), true)
def m_impl_CutFeeder_j4 (n : Nat) (k48 : List Int → Int → Option (SFeeder × Bool)) (v41 : Int) (v53 : List Int) : Option (SFeeder × Bool) :=
  k48 v53 (w64 (v41 + (1 : Int)))
def m_impl_CutFeeder_l3 (n : Nat) (f_ : SFeeder) (x21 : List Int) : Nat → List Int → Int → Option (SFeeder × Bool)
  | 0, _, _ => none
  | m47 + 1, v40, v41 =>
    if v41 < (f_.Buses.length : Int) then
      (m_slices_Contains n x21 v41).bind fun x55 =>
      if x55 = true then
        m_impl_CutFeeder_j4 n (m_impl_CutFeeder_l3 n f_ x21 m47) v41 v40
      else
        grd (room (v40.length + 1) 8) <|
        m_impl_CutFeeder_j4 n (m_impl_CutFeeder_l3 n f_ x21 m47) v41 (v40 ++ [v41])
    else
      m_impl_CutFeeder_j2 n f_ v40
def m_impl_CutFeeder_j1 (n : Nat) (f_ : SFeeder) (bus_ : Int) : Option (SFeeder × Bool) :=
  (m_impl_Feeder_below n f_ bus_).bind fun x21 =>
  m_impl_CutFeeder_l3 n f_ x21 n ([] : List Int) (0 : Int)
def m_impl_CutFeeder_j5 (n : Nat) (f_ : SFeeder) (bus_ : Int) (v62 : Bool) : Option (SFeeder × Bool) :=
  if v62 = true then
    some ((SFeeder.mk (SPhases.mk (Cx.mk (0 : Nat) (0 : Nat)) (Cx.mk (0 : Nat) (0 : Nat)) (Cx.mk (0 : Nat) (0 : Nat))) ([] : List SBus)), false)
  else
    m_impl_CutFeeder_j1 n f_ bus_
def m_impl_CutFeeder (n : Nat) (f_ : SFeeder) (bus_ : Int) : Option (SFeeder × Bool) :=
  (m_impl_Feeder_has n f_ bus_).bind fun x65 =>
  if x65 = true then
    m_impl_CutFeeder_j5 n f_ bus_ (decide (bus_ = (0 : Int)))
  else
    m_impl_CutFeeder_j5 n f_ bus_ true
theorem impl_CutFeeder_ok_fr0 (fr : Bool) (n : Nat) (f_ : SFeeder) (bus_ : Int) {r : SFeeder × Bool} (h : m_impl_CutFeeder n f_ bus_ = some r) : ACall prog fr 22 [.agg [.d (.cx .f32 f_.Source.A.re f_.Source.A.im), .d (.cx .f32 f_.Source.B.re f_.Source.B.im), .d (.cx .f32 f_.Source.C.re f_.Source.C.im), .d (.sl false (f_.Buses.map eSBus))], .d (.int .i64 bus_)] [] (fun v o new => v = .tup [.agg [.d (.cx .f32 r.1.Source.A.re r.1.Source.A.im), .d (.cx .f32 r.1.Source.B.re r.1.Source.B.im), .d (.cx .f32 r.1.Source.C.re r.1.Source.C.im), .row 0 r.1.Buses.length 0 r.1.Buses.length], .d (.bool r.2)] ∧ o = [] ∧ new = [.row 8 (r.1.Buses.map eSBus)]) := by
  refine acall_of_aw hτ func22 rfl (by simp) (by simp) ?_
  unfold m_impl_CutFeeder at h
  refine aw_seq ?_
  refine aw_region ?_
  refine awl_valH hτ rfl rfl rfl ?_
  refine awl_valH hτ rfl rfl rfl ?_
  refine awl_val hτ rfl rfl rfl ?_
  refine awl_nil ?_
  refine aw_hk1 (ι := Unit) (fun _ => St.of [(1, .d (.int .i64 bus_)), (2, .ptr 0 0), (4, .ptr 1 0)] [.box [.d (.cx .f32 f_.Source.A.re f_.Source.A.im), .d (.cx .f32 f_.Source.B.re f_.Source.B.im), .d (.cx .f32 f_.Source.C.re f_.Source.C.im), .d (.sl false (f_.Buses.map eSBus))], .box [.d (.cx .f32 (0 : Nat) (0 : Nat)), .d (.cx .f32 (0 : Nat) (0 : Nat)), .d (.cx .f32 (0 : Nat) (0 : Nat)), .d (.nils)]] f22.ntmps 0) (fun _ => m_impl_CutFeeder_j1 n f_ bus_ = some r) ?_ (fun hk58 => ?_)
  · rintro ⟨⟩ h
    replace h : m_impl_CutFeeder_j1 n f_ bus_ = some r := h
    unfold m_impl_CutFeeder_j1 at h
    refine aw_seq ?_
    refine aw_region ?_
    refine awl_val hτ rfl rfl rfl ?_
    refine bnd_elim h fun x21 hx21 h => ?_
    refine awl_callP hτ false [0] rfl rfl rfl (enterOk func81 rfl rfl) rfl rfl (by simp) ⟨trivial, trivial, trivial⟩ (by repeat' first | exact trivial | refine ⟨?_, ?_⟩) (impl_Feeder_below_ok n f_ bus_ hx21) ?_
    rintro r0 o0 n0 ⟨rfl, rfl, rfl⟩ -
    refine awl_valH hτ rfl rfl rfl ?_
    refine awl_val hτ rfl rfl rfl ?_
    refine awl_val hτ rfl rfl rfl ?_
    refine awl_nil ?_
    refine aw_hk1 (ι := List Int) (fun v32 => St.of [(2, .ptr 0 0), (4, .ptr 1 0), (7, .row 2 v32.length 0 v32.length)] [.box [.d (.cx .f32 f_.Source.A.re f_.Source.A.im), .d (.cx .f32 f_.Source.B.re f_.Source.B.im), .d (.cx .f32 f_.Source.C.re f_.Source.C.im), .d (.sl false (f_.Buses.map eSBus))], .box [.d (.cx .f32 (0 : Nat) (0 : Nat)), .d (.cx .f32 (0 : Nat) (0 : Nat)), .d (.cx .f32 (0 : Nat) (0 : Nat)), .d (.nils)], .row 1 (v32.map eInti64)] f22.ntmps 0) (fun v32 => m_impl_CutFeeder_j2 n f_ v32 = some r) ?_ (fun hk36 => ?_)
    · rintro v32 h
      replace h : m_impl_CutFeeder_j2 n f_ v32 = some r := h
      unfold m_impl_CutFeeder_j2 at h
      refine aw_seq ?_
      refine aw_region ?_
      refine awl_val hτ rfl rfl rfl ?_
      refine awl_val hτ rfl rfl rfl ?_
      refine awl_val hτ rfl rfl rfl ?_
      refine awl_weak (weak_ofP [0, 1] (l := [(2, .ptr 0 0), (4, .ptr 1 0), (37, .agg [.d (.cx .f32 f_.Source.A.re f_.Source.A.im), .d (.cx .f32 f_.Source.B.re f_.Source.B.im), .d (.cx .f32 f_.Source.C.re f_.Source.C.im)]), (38, .d (.sl false (v32.map eInti64)))]) (objs := [.box [.d (.cx .f32 f_.Source.A.re f_.Source.A.im), .d (.cx .f32 f_.Source.B.re f_.Source.B.im), .d (.cx .f32 f_.Source.C.re f_.Source.C.im), .d (.sl false (f_.Buses.map eSBus))], .box [.d (.cx .f32 (0 : Nat) (0 : Nat)), .d (.cx .f32 (0 : Nat) (0 : Nat)), .d (.cx .f32 (0 : Nat) (0 : Nat)), .d (.nils)]]) rfl (by simp) rfl (by repeat' first | exact trivial | refine ⟨?_, ?_⟩) ⟨rfl, trivial, rfl, trivial, rfl, (by repeat' first | exact trivial | refine ⟨?_, ?_⟩), (exV_view (f := eInti64) v32 rfl rfl rfl), (exVP_view (f := eInti64) v32 rfl rfl rfl), trivial⟩) ?_
      refine bnd_elim h fun x33 hx33 h => ?_
      refine awl_callP hτ false [0] rfl rfl rfl (enterOk func87 rfl rfl) rfl rfl (by simp) ⟨trivial, (by repeat' first | exact trivial | refine ⟨?_, ?_⟩), trivial, trivial⟩ (by repeat' first | exact trivial | refine ⟨?_, ?_⟩) (impl_Feeder_kept_ok n f_ f_.Source v32 hx33) ?_
      rintro r0 o0 n0 ⟨rfl, rfl, rfl⟩ -
      refine awl_valH hτ rfl rfl rfl ?_
      refine awl_valH hτ rfl rfl rfl ?_
      refine awl_nil ?_
      refine aw_seq ?_
      refine any_start ?_
      refine any_val hτ [3] 0 rfl rfl rfl rfl rfl ?_
      refine any_val hτ [3] 1 rfl rfl rfl rfl rfl ?_
      refine any_val hτ [0] 2 rfl rfl rfl rfl rfl ?_
      refine any_val hτ [0] 3 rfl rfl rfl rfl rfl ?_
      refine bnd_elim h fun x34 hx34 h => ?_
      refine any_elem hτ [] 4 rfl rfl rfl rfl rfl (getI_some hx34).1 (map_getI hx34) rfl ?_
      refine any_val hτ [] 5 rfl rfl rfl rfl rfl ?_
      refine bnd_elim h fun x35 hx35 h => ?_
      refine any_need hτ [2] 6 rfl rfl rfl rfl rfl (row_need hx35) ?_
      refine any_elemHP hτ [0, 1, 3] 7 rfl rfl rfl rfl (len_map _) (row_get hx35) (set_val (f := eSBus) (l := x33.Buses) (i := (0 : Int)) (y := x34) rfl) ⟨rfl, rfl, rfl, trivial⟩ ?_
      refine any_done mixed (by kernel_rfl) ?_
      refine aw_seq ?_
      refine aw_weak (weak_ofP [1, 3, 2] (l := [(4, .ptr 0 0), (9, .ptr 1 0)]) (objs := [.box [.d (.cx .f32 (0 : Nat) (0 : Nat)), .d (.cx .f32 (0 : Nat) (0 : Nat)), .d (.cx .f32 (0 : Nat) (0 : Nat)), .d (.nils)], .box [.d (.cx .f32 x33.Source.A.re x33.Source.A.im), .d (.cx .f32 x33.Source.B.re x33.Source.B.im), .d (.cx .f32 x33.Source.C.re x33.Source.C.im), .row 2 ((x33.Buses.set (0 : Int).toNat x34).length) 0 ((x33.Buses.set (0 : Int).toNat x34).length)], .row 8 ((x33.Buses.set (0 : Int).toNat x34).map eSBus)]) rfl (by simp) (mapO_cons rfl (mapO_cons (exO_box (mapO_cons rfl (mapO_cons rfl (mapO_cons rfl (mapO_cons (exC_rowL rfl (by simp)) mapO_nil))))) (mapO_cons rfl mapO_nil))) ⟨(by repeat' first | exact trivial | refine ⟨?_, ?_⟩), ⟨trivial, trivial, trivial, trivial⟩, trivial, trivial⟩ ⟨rfl, trivial, rfl, trivial, trivial⟩) ?_
      refine aw_region ?_
      refine awl_val hτ rfl rfl rfl ?_
      refine awl_valH hτ rfl rfl rfl ?_
      refine awl_val hτ rfl rfl rfl ?_
      refine awl_nil ?_
      refine aw_weak (weak_ofP [0, 2] (l := [(4, .ptr 0 0), (5, .d (.bool true))]) (objs := [.box [.d (.cx .f32 x33.Source.A.re x33.Source.A.im), .d (.cx .f32 x33.Source.B.re x33.Source.B.im), .d (.cx .f32 x33.Source.C.re x33.Source.C.im), .row 1 ((x33.Buses.set (0 : Int).toNat x34).length) 0 ((x33.Buses.set (0 : Int).toNat x34).length)], .row 8 ((x33.Buses.set (0 : Int).toNat x34).map eSBus)]) rfl (by simp) rfl (by repeat' first | exact trivial | refine ⟨?_, ?_⟩) ⟨rfl, trivial, rfl, trivial, trivial⟩) ?_
      refine aw_ret ?_
      have hr := Option.some.inj h
      subst hr
      exact ret_objs (.inr rfl) [1] (objs' := []) (new := [.row 8 ((x33.Buses.set (0 : Int).toNat x34).map eSBus)]) rfl (by simp) (by simp) rfl (by repeat' first | exact trivial | refine ⟨?_, ?_⟩) rfl rfl (by repeat' first | exact trivial | refine ⟨?_, ?_⟩) (fun _ => ⟨by simp [V.flat, V.flatA, V.flatC, D.flat], (flat_cons (flat_row eSBus_flat _) flat_nil)⟩) ⟨rfl, rfl, rfl⟩
    · refine aw_seq ?_
      refine aw_seq ?_
      refine aw_region ?_
      refine awl_val hτ rfl rfl rfl ?_
      refine awl_val hτ rfl rfl rfl ?_
      refine awl_val hτ (v := .d (.int .i64 (f_.Buses.length : Int))) rfl rfl (Eq.trans rfl (or_len (f := eSBus) f_.Buses)) ?_
      refine awl_val hτ rfl rfl rfl ?_
      refine awl_nil ?_
      refine aw_block ?_
      refine aw_loop (ι := Nat × List Int × Int) (fun (m47, v40, v41) => St.of [(2, .ptr 0 0), (4, .ptr 1 0), (6, .row 2 x21.length 0 x21.length), (7, .row 3 v40.length 0 v40.length), (23, .d (.int .i64 (f_.Buses.length : Int))), (24, .d (.int .i64 v41))] [.box [.d (.cx .f32 f_.Source.A.re f_.Source.A.im), .d (.cx .f32 f_.Source.B.re f_.Source.B.im), .d (.cx .f32 f_.Source.C.re f_.Source.C.im), .d (.sl false (f_.Buses.map eSBus))], .box [.d (.cx .f32 (0 : Nat) (0 : Nat)), .d (.cx .f32 (0 : Nat) (0 : Nat)), .d (.cx .f32 (0 : Nat) (0 : Nat)), .d (.nils)], .row 1 (x21.map eInti64), .row 1 (v40.map eInti64)] f22.ntmps 0) (fun (m47, v40, v41) => m_impl_CutFeeder_l3 n f_ x21 m47 v40 v41 = some r) (fun x => x.1) (n, ([] : List Int), (0 : Int)) h (weak_ofP [0, 1, 2, 3] (l := [(2, .ptr 0 0), (4, .ptr 1 0), (6, .row 2 x21.length 0 x21.length), (7, .row 3 (([] : List Int).length) 0 (([] : List Int).length)), (23, .d (.int .i64 (f_.Buses.length : Int))), (24, .d (.int .i64 (0 : Int)))]) (objs := [.box [.d (.cx .f32 f_.Source.A.re f_.Source.A.im), .d (.cx .f32 f_.Source.B.re f_.Source.B.im), .d (.cx .f32 f_.Source.C.re f_.Source.C.im), .d (.sl false (f_.Buses.map eSBus))], .box [.d (.cx .f32 (0 : Nat) (0 : Nat)), .d (.cx .f32 (0 : Nat) (0 : Nat)), .d (.cx .f32 (0 : Nat) (0 : Nat)), .d (.nils)], .row 1 (x21.map eInti64), .row 1 (([] : List Int).map eInti64)]) rfl (by simp) rfl (by repeat' first | exact trivial | refine ⟨?_, ?_⟩) ⟨rfl, trivial, rfl, trivial, rfl, trivial, rfl, trivial, rfl, trivial, rfl, trivial, trivial⟩) ?_
      rintro ⟨m47, v40, v41⟩ h
      replace h : m_impl_CutFeeder_l3 n f_ x21 m47 v40 v41 = some r := h
      rcases m47 with _ | m47
      · rw [m_impl_CutFeeder_l3] at h; cases h
      rw [m_impl_CutFeeder_l3] at h
      refine aw_seq ?_
      refine aw_region ?_
      refine awl_val hτ rfl rfl rfl ?_
      refine awl_nil ?_
      refine aw_seq ?_
      refine aw_cond rfl (fun hc49 => ?_) (fun hc49 => ?_)
      · have h := if_t h hc49
        refine aw_skip ?_
        refine aw_hk1 (ι := List Int) (fun v53 => St.of [(2, .ptr 0 0), (4, .ptr 1 0), (6, .row 2 x21.length 0 x21.length), (7, .row 3 v53.length 0 v53.length), (23, .d (.int .i64 (f_.Buses.length : Int))), (24, .d (.int .i64 v41))] [.box [.d (.cx .f32 f_.Source.A.re f_.Source.A.im), .d (.cx .f32 f_.Source.B.re f_.Source.B.im), .d (.cx .f32 f_.Source.C.re f_.Source.C.im), .d (.sl false (f_.Buses.map eSBus))], .box [.d (.cx .f32 (0 : Nat) (0 : Nat)), .d (.cx .f32 (0 : Nat) (0 : Nat)), .d (.cx .f32 (0 : Nat) (0 : Nat)), .d (.nils)], .row 1 (x21.map eInti64), .row 1 (v53.map eInti64)] f22.ntmps 0) (fun v53 => m_impl_CutFeeder_j4 n (m_impl_CutFeeder_l3 n f_ x21 m47) v41 v53 = some r) ?_ (fun hk54 => ?_)
        · rintro v53 h
          replace h : m_impl_CutFeeder_j4 n (m_impl_CutFeeder_l3 n f_ x21 m47) v41 v53 = some r := h
          unfold m_impl_CutFeeder_j4 at h
          refine aw_region ?_
          refine awl_val hτ rfl rfl rfl ?_
          refine awl_val hτ rfl rfl rfl ?_
          refine awl_nil ?_
          exact ⟨(m47, v53, (w64 (v41 + (1 : Int)))), h, Nat.lt_succ_self m47, (weak_ofP [0, 1, 2, 3] (l := [(2, .ptr 0 0), (4, .ptr 1 0), (6, .row 2 x21.length 0 x21.length), (7, .row 3 v53.length 0 v53.length), (23, .d (.int .i64 (f_.Buses.length : Int))), (24, .d (.int .i64 (w64 (v41 + (1 : Int)))))]) (objs := [.box [.d (.cx .f32 f_.Source.A.re f_.Source.A.im), .d (.cx .f32 f_.Source.B.re f_.Source.B.im), .d (.cx .f32 f_.Source.C.re f_.Source.C.im), .d (.sl false (f_.Buses.map eSBus))], .box [.d (.cx .f32 (0 : Nat) (0 : Nat)), .d (.cx .f32 (0 : Nat) (0 : Nat)), .d (.cx .f32 (0 : Nat) (0 : Nat)), .d (.nils)], .row 1 (x21.map eInti64), .row 1 (v53.map eInti64)]) rfl (by simp) rfl (by repeat' first | exact trivial | refine ⟨?_, ?_⟩) ⟨rfl, trivial, rfl, trivial, rfl, trivial, rfl, trivial, rfl, trivial, rfl, trivial, trivial⟩)⟩
        · refine aw_seq ?_
          refine aw_block ?_
          refine aw_seq ?_
          refine aw_region ?_
          refine awl_val hτ rfl rfl rfl ?_
          refine awl_val hτ rfl rfl rfl ?_
          refine awl_nil ?_
          refine aw_seq ?_
          refine aw_region ?_
          refine awl_val hτ rfl rfl rfl ?_
          refine awl_val hτ rfl rfl rfl ?_
          refine awl_weak (weak_ofP [0, 1, 2, 3] (l := [(2, .ptr 0 0), (4, .ptr 1 0), (6, .row 2 x21.length 0 x21.length), (7, .row 3 v40.length 0 v40.length), (8, .d (.int .i64 v41)), (23, .d (.int .i64 (f_.Buses.length : Int))), (24, .d (.int .i64 v41)), (27, .row 2 x21.length 0 x21.length), (28, .d (.int .i64 v41))]) (objs := [.box [.d (.cx .f32 f_.Source.A.re f_.Source.A.im), .d (.cx .f32 f_.Source.B.re f_.Source.B.im), .d (.cx .f32 f_.Source.C.re f_.Source.C.im), .d (.sl false (f_.Buses.map eSBus))], .box [.d (.cx .f32 (0 : Nat) (0 : Nat)), .d (.cx .f32 (0 : Nat) (0 : Nat)), .d (.cx .f32 (0 : Nat) (0 : Nat)), .d (.nils)], .row 1 (x21.map eInti64), .row 1 (v40.map eInti64)]) rfl (by simp) rfl (by repeat' first | exact trivial | refine ⟨?_, ?_⟩) ⟨rfl, trivial, rfl, trivial, rfl, trivial, rfl, trivial, rfl, trivial, rfl, trivial, rfl, trivial, rfl, trivial, rfl, trivial, trivial⟩) ?_
          refine bnd_elim h fun x55 hx55 h => ?_
          refine awl_callP hτ true [] rfl rfl rfl (enterOk func86 rfl rfl) (mapO_cons (exV_view (f := eInti64) x21 rfl rfl rfl) (mapO_cons rfl mapO_nil)) rfl (by simp) ⟨(exVP_view (f := eInti64) x21 rfl rfl rfl), trivial, trivial⟩ (by repeat' first | exact trivial | refine ⟨?_, ?_⟩) (slices_Contains_ok_fr n x21 v41 hx55) ?_
          rintro r0 o0 n0 ⟨rfl, rfl, rfl⟩ -
          refine awl_val hτ rfl rfl rfl ?_
          refine awl_nil ?_
          refine aw_cond rfl (fun hc56 => ?_) (fun hc56 => ?_)
          · have hc56 := not_t hc56
            have h := if_bf h hc56
            refine aw_region ?_
            refine awl_val hτ rfl rfl rfl ?_
            refine awl_val hτ rfl rfl rfl ?_
            refine awl_valH hτ rfl rfl rfl ?_
            refine grd_elim h fun hg57 h => ?_
            refine awl_needH hτ rfl rfl (Eq.trans rfl (or_append (f := eInti64) v40 [v41] rfl)) ⟨⟨rfl, Nat.le_of_ble_eq_true rfl⟩, len_map _, rfl, rfl, hg57, by decide, (all1 rfl)⟩ ?_
            refine awl_val hτ rfl rfl rfl ?_
            refine awl_nil ?_
            refine aw_weak (weak_ofP [0, 1, 2, 3] (l := [(2, .ptr 0 0), (4, .ptr 1 0), (6, .row 2 x21.length 0 x21.length), (7, .row 3 ((v40 ++ [v41]).length) 0 ((v40 ++ [v41]).length)), (23, .d (.int .i64 (f_.Buses.length : Int))), (24, .d (.int .i64 v41))]) (objs := [.box [.d (.cx .f32 f_.Source.A.re f_.Source.A.im), .d (.cx .f32 f_.Source.B.re f_.Source.B.im), .d (.cx .f32 f_.Source.C.re f_.Source.C.im), .d (.sl false (f_.Buses.map eSBus))], .box [.d (.cx .f32 (0 : Nat) (0 : Nat)), .d (.cx .f32 (0 : Nat) (0 : Nat)), .d (.cx .f32 (0 : Nat) (0 : Nat)), .d (.nils)], .row 1 (x21.map eInti64), .row 1 ((v40 ++ [v41]).map eInti64)]) rfl (by simp) rfl (by repeat' first | exact trivial | refine ⟨?_, ?_⟩) ⟨rfl, trivial, rfl, trivial, rfl, trivial, rfl, trivial, rfl, trivial, rfl, trivial, trivial⟩) ?_
            exact hk54 (v40 ++ [v41]) h
          · have hc56 := not_f hc56
            have h := if_bt h hc56
            refine aw_skip ?_
            refine aw_weak (weak_ofP [0, 1, 2, 3] (l := [(2, .ptr 0 0), (4, .ptr 1 0), (6, .row 2 x21.length 0 x21.length), (7, .row 3 v40.length 0 v40.length), (23, .d (.int .i64 (f_.Buses.length : Int))), (24, .d (.int .i64 v41))]) (objs := [.box [.d (.cx .f32 f_.Source.A.re f_.Source.A.im), .d (.cx .f32 f_.Source.B.re f_.Source.B.im), .d (.cx .f32 f_.Source.C.re f_.Source.C.im), .d (.sl false (f_.Buses.map eSBus))], .box [.d (.cx .f32 (0 : Nat) (0 : Nat)), .d (.cx .f32 (0 : Nat) (0 : Nat)), .d (.cx .f32 (0 : Nat) (0 : Nat)), .d (.nils)], .row 1 (x21.map eInti64), .row 1 (v40.map eInti64)]) rfl (by simp) rfl (by repeat' first | exact trivial | refine ⟨?_, ?_⟩) ⟨rfl, trivial, rfl, trivial, rfl, trivial, rfl, trivial, rfl, trivial, rfl, trivial, trivial⟩) ?_
            exact hk54 v40 h
      · have h := if_f h hc49
        refine aw_exit ?_
        refine aw_weak (weak_ofP [0, 1, 3] (l := [(2, .ptr 0 0), (4, .ptr 1 0), (7, .row 2 v40.length 0 v40.length)]) (objs := [.box [.d (.cx .f32 f_.Source.A.re f_.Source.A.im), .d (.cx .f32 f_.Source.B.re f_.Source.B.im), .d (.cx .f32 f_.Source.C.re f_.Source.C.im), .d (.sl false (f_.Buses.map eSBus))], .box [.d (.cx .f32 (0 : Nat) (0 : Nat)), .d (.cx .f32 (0 : Nat) (0 : Nat)), .d (.cx .f32 (0 : Nat) (0 : Nat)), .d (.nils)], .row 1 (v40.map eInti64)]) rfl (by simp) rfl (by repeat' first | exact trivial | refine ⟨?_, ?_⟩) ⟨rfl, trivial, rfl, trivial, rfl, trivial, trivial⟩) ?_
        exact hk36 v40 h
  · refine aw_seq ?_
    refine aw_hk1 (ι := Bool) (fun v62 => St.of [(1, .d (.int .i64 bus_)), (2, .ptr 0 0), (4, .ptr 1 0), (16, .d (.bool v62))] [.box [.d (.cx .f32 f_.Source.A.re f_.Source.A.im), .d (.cx .f32 f_.Source.B.re f_.Source.B.im), .d (.cx .f32 f_.Source.C.re f_.Source.C.im), .d (.sl false (f_.Buses.map eSBus))], .box [.d (.cx .f32 (0 : Nat) (0 : Nat)), .d (.cx .f32 (0 : Nat) (0 : Nat)), .d (.cx .f32 (0 : Nat) (0 : Nat)), .d (.nils)]] f22.ntmps 0) (fun v62 => m_impl_CutFeeder_j5 n f_ bus_ v62 = some r) ?_ (fun hk64 => ?_)
    · rintro v62 h
      replace h : m_impl_CutFeeder_j5 n f_ bus_ v62 = some r := h
      unfold m_impl_CutFeeder_j5 at h
      refine aw_cond rfl (fun hc63 => ?_) (fun hc63 => ?_)
      · have h := if_bt h hc63
        refine aw_seq ?_
        refine aw_region ?_
        refine awl_val hτ rfl rfl rfl ?_
        refine awl_valH hτ rfl rfl rfl ?_
        refine awl_val hτ rfl rfl rfl ?_
        refine awl_nil ?_
        refine aw_weak (weak_ofP [1] (l := [(4, .ptr 0 0), (5, .d (.bool false))]) (objs := [.box [.d (.cx .f32 (0 : Nat) (0 : Nat)), .d (.cx .f32 (0 : Nat) (0 : Nat)), .d (.cx .f32 (0 : Nat) (0 : Nat)), .d (.nils)]]) rfl (by simp) rfl (by repeat' first | exact trivial | refine ⟨?_, ?_⟩) ⟨rfl, trivial, rfl, trivial, trivial⟩) ?_
        refine aw_weak (weak_relax [8] (l' := [(4, .ptr 0 0), (5, .d (.bool false))]) (objs' := [.box [.d (.cx .f32 (0 : Nat) (0 : Nat)), .d (.cx .f32 (0 : Nat) (0 : Nat)), .d (.cx .f32 (0 : Nat) (0 : Nat)), .row 1 (([] : List SBus).length) 0 (([] : List SBus).length)]]) (.cons (.c (.refl _)) (.cons (.c (.refl _)) .nil)) (.cons (.box (.cons (.refl _) (.cons (.refl _) (.cons (.refl _) (.cons (.ghost ⟨Nat.le_of_ble_eq_true rfl, Nat.le_of_ble_eq_true rfl⟩) .nil))))) .nil)) ?_
        refine aw_ret ?_
        have hr := Option.some.inj h
        subst hr
        exact ret_objs (.inr rfl) [1] (objs' := []) (new := [.row 8 (([] : List SBus).map eSBus)]) rfl (by simp) (by simp) rfl (by repeat' first | exact trivial | refine ⟨?_, ?_⟩) rfl rfl (by repeat' first | exact trivial | refine ⟨?_, ?_⟩) (fun _ => ⟨by simp [V.flat, V.flatA, V.flatC, D.flat], (flat_cons (flat_row eSBus_flat _) flat_nil)⟩) ⟨rfl, rfl, rfl⟩
      · have h := if_bf h hc63
        refine aw_skip ?_
        refine aw_weak (weak_ofP [0, 1] (l := [(1, .d (.int .i64 bus_)), (2, .ptr 0 0), (4, .ptr 1 0)]) (objs := [.box [.d (.cx .f32 f_.Source.A.re f_.Source.A.im), .d (.cx .f32 f_.Source.B.re f_.Source.B.im), .d (.cx .f32 f_.Source.C.re f_.Source.C.im), .d (.sl false (f_.Buses.map eSBus))], .box [.d (.cx .f32 (0 : Nat) (0 : Nat)), .d (.cx .f32 (0 : Nat) (0 : Nat)), .d (.cx .f32 (0 : Nat) (0 : Nat)), .d (.nils)]]) rfl (by simp) rfl (by repeat' first | exact trivial | refine ⟨?_, ?_⟩) ⟨rfl, trivial, rfl, trivial, rfl, trivial, trivial⟩) ?_
        exact hk58 () h
    · refine aw_seq ?_
      refine aw_region ?_
      refine awl_val hτ rfl rfl rfl ?_
      refine bnd_elim h fun x65 hx65 h => ?_
      refine awl_callP hτ false [0] rfl rfl rfl (enterOk func79 rfl rfl) rfl rfl (by simp) ⟨trivial, trivial, trivial⟩ (by repeat' first | exact trivial | refine ⟨?_, ?_⟩) (impl_Feeder_has_ok n f_ bus_ hx65) ?_
      rintro r0 o0 n0 ⟨rfl, rfl, rfl⟩ -
      refine awl_val hτ rfl rfl rfl ?_
      refine awl_val hτ rfl rfl rfl ?_
      refine awl_split 13 rfl (fun hb66 => ?_) (fun hb66 => ?_)
      · have hb66 := not_t hb66
        have h := if_bf h hb66
        refine awl_skip rfl rfl ?_
        refine awl_skip rfl rfl ?_
        refine awl_val hτ rfl rfl rfl ?_
        refine awl_nil ?_
        refine aw_weak (weak_ofP [0, 1] (l := [(1, .d (.int .i64 bus_)), (2, .ptr 0 0), (4, .ptr 1 0), (16, .d (.bool true))]) (objs := [.box [.d (.cx .f32 f_.Source.A.re f_.Source.A.im), .d (.cx .f32 f_.Source.B.re f_.Source.B.im), .d (.cx .f32 f_.Source.C.re f_.Source.C.im), .d (.sl false (f_.Buses.map eSBus))], .box [.d (.cx .f32 (0 : Nat) (0 : Nat)), .d (.cx .f32 (0 : Nat) (0 : Nat)), .d (.cx .f32 (0 : Nat) (0 : Nat)), .d (.nils)]]) rfl (by simp) rfl (by repeat' first | exact trivial | refine ⟨?_, ?_⟩) ⟨rfl, trivial, rfl, trivial, rfl, trivial, rfl, trivial, trivial⟩) ?_
        exact hk64 true h
      · have hb66 := not_f hb66
        have h := if_bt h hb66
        refine awl_val hτ rfl rfl rfl ?_
        refine awl_val hτ (v := .d (.bool (decide (bus_ = (0 : Int))))) rfl rfl (or_ieq _ _) ?_
        refine awl_val hτ rfl rfl rfl ?_
        refine awl_nil ?_
        refine aw_weak (weak_ofP [0, 1] (l := [(1, .d (.int .i64 bus_)), (2, .ptr 0 0), (4, .ptr 1 0), (16, .d (.bool (decide (bus_ = (0 : Int)))))]) (objs := [.box [.d (.cx .f32 f_.Source.A.re f_.Source.A.im), .d (.cx .f32 f_.Source.B.re f_.Source.B.im), .d (.cx .f32 f_.Source.C.re f_.Source.C.im), .d (.sl false (f_.Buses.map eSBus))], .box [.d (.cx .f32 (0 : Nat) (0 : Nat)), .d (.cx .f32 (0 : Nat) (0 : Nat)), .d (.cx .f32 (0 : Nat) (0 : Nat)), .d (.nils)]]) rfl (by simp) rfl (by repeat' first | exact trivial | refine ⟨?_, ?_⟩) ⟨rfl, trivial, rfl, trivial, rfl, trivial, rfl, trivial, trivial⟩) ?_
        exact hk64 (decide (bus_ = (0 : Int))) h
theorem impl_CutFeeder_ok (n : Nat) (f_ : SFeeder) (bus_ : Int) {r : SFeeder × Bool} (h : m_impl_CutFeeder n f_ bus_ = some r) : ACall prog false 22 [.agg [.d (.cx .f32 f_.Source.A.re f_.Source.A.im), .d (.cx .f32 f_.Source.B.re f_.Source.B.im), .d (.cx .f32 f_.Source.C.re f_.Source.C.im), .d (.sl false (f_.Buses.map eSBus))], .d (.int .i64 bus_)] [] (fun v o new => v = .tup [.agg [.d (.cx .f32 r.1.Source.A.re r.1.Source.A.im), .d (.cx .f32 r.1.Source.B.re r.1.Source.B.im), .d (.cx .f32 r.1.Source.C.re r.1.Source.C.im), .row 0 r.1.Buses.length 0 r.1.Buses.length], .d (.bool r.2)] ∧ o = [] ∧ new = [.row 8 (r.1.Buses.map eSBus)]) := impl_CutFeeder_ok_fr0 false n f_ bus_ h
theorem impl_CutFeeder_ok_fr (n : Nat) (f_ : SFeeder) (bus_ : Int) {r : SFeeder × Bool} (h : m_impl_CutFeeder n f_ bus_ = some r) : ACall prog true 22 [.agg [.d (.cx .f32 f_.Source.A.re f_.Source.A.im), .d (.cx .f32 f_.Source.B.re f_.Source.B.im), .d (.cx .f32 f_.Source.C.re f_.Source.C.im), .d (.sl false (f_.Buses.map eSBus))], .d (.int .i64 bus_)] [] (fun v o new => v = .tup [.agg [.d (.cx .f32 r.1.Source.A.re r.1.Source.A.im), .d (.cx .f32 r.1.Source.B.re r.1.Source.B.im), .d (.cx .f32 r.1.Source.C.re r.1.Source.C.im), .row 0 r.1.Buses.length 0 r.1.Buses.length], .d (.bool r.2)] ∧ o = [] ∧ new = [.row 8 (r.1.Buses.map eSBus)]) := impl_CutFeeder_ok_fr0 true n f_ bus_ h

def m_laws_r8At_j1 (n : Nat) (code_ : List Int) (k_ : Int) (n_ : Int) : Option Int :=
  (getI code_ k_).bind fun x7 =>
  grd (n_ ≠ 0) <|
  some ((w64 (x7)).tmod n_)
def m_laws_r8At_j2 (n : Nat) (code_ : List Int) (k_ : Int) (n_ : Int) (v12 : Bool) : Option Int :=
  if v12 = true then
    some (0 : Int)
  else
    m_laws_r8At_j1 n code_ k_ n_
def m_laws_r8At (n : Nat) (code_ : List Int) (k_ : Int) (n_ : Int) : Option Int :=
  if n_ ≤ (1 : Int) then
    m_laws_r8At_j2 n code_ k_ n_ true
  else
    m_laws_r8At_j2 n code_ k_ n_ (decide (k_ ≥ (code_.length : Int)))
theorem laws_r8At_ok_fr0 (fr : Bool) (n : Nat) (code_ : List Int) (k_ : Int) (n_ : Int) {r : Int} (h : m_laws_r8At n code_ k_ n_ = some r) : ACall prog fr 14 [.d (.sl false (code_.map eIntu8)), .d (.int .i64 k_), .d (.int .i64 n_)] [] (fun v o new => v = .d (.int .i64 r) ∧ o = [] ∧ new = []) := by
  refine acall_of_aw hτ func14 rfl (by simp) (by simp) ?_
  unfold m_laws_r8At at h
  refine aw_seq ?_
  refine aw_region ?_
  refine awl_val hτ rfl rfl rfl ?_
  refine awl_nil ?_
  refine aw_hk1 (ι := Unit) (fun _ => St.of [(0, .d (.sl false (code_.map eIntu8))), (1, .d (.int .i64 k_)), (2, .d (.int .i64 n_))] [] f14.ntmps 0) (fun _ => m_laws_r8At_j1 n code_ k_ n_ = some r) ?_ (fun hk9 => ?_)
  · rintro ⟨⟩ h
    replace h : m_laws_r8At_j1 n code_ k_ n_ = some r := h
    unfold m_laws_r8At_j1 at h
    refine aw_seq ?_
    refine aw_region ?_
    refine awl_val hτ rfl rfl rfl ?_
    refine awl_val hτ rfl rfl rfl ?_
    refine bnd_elim h fun x7 hx7 h => ?_
    refine awl_elem hτ rfl rfl rfl (getI_some hx7).1 (map_getI hx7) rfl ?_
    refine awl_val hτ rfl rfl rfl ?_
    refine awl_val hτ rfl rfl rfl ?_
    refine awl_val hτ rfl rfl rfl ?_
    refine grd_elim h fun hg8 h => ?_
    refine awl_need hτ rfl rfl rfl hg8 ?_
    refine awl_val hτ rfl rfl rfl ?_
    refine awl_nil ?_
    refine aw_weak (weak_ofP [] (l := [(6, .d (.int .i64 ((w64 (x7)).tmod n_)))]) (objs := []) rfl (by simp) rfl (by repeat' first | exact trivial | refine ⟨?_, ?_⟩) ⟨rfl, trivial, trivial⟩) ?_
    refine aw_ret ?_
    have hr := Option.some.inj h
    subst hr
    exact ret_objs (.inr rfl) [] (objs' := []) (new := []) rfl (by simp) (by simp) rfl (by repeat' first | exact trivial | refine ⟨?_, ?_⟩) rfl rfl (by repeat' first | exact trivial | refine ⟨?_, ?_⟩) (fun _ => ⟨by simp [V.flat, V.flatA, V.flatC, D.flat], flat_nil⟩) ⟨rfl, rfl, rfl⟩
  · refine aw_seq ?_
    refine aw_hk1 (ι := Bool) (fun v12 => St.of [(0, .d (.sl false (code_.map eIntu8))), (1, .d (.int .i64 k_)), (2, .d (.int .i64 n_)), (14, .d (.bool v12))] [] f14.ntmps 0) (fun v12 => m_laws_r8At_j2 n code_ k_ n_ v12 = some r) ?_ (fun hk14 => ?_)
    · rintro v12 h
      replace h : m_laws_r8At_j2 n code_ k_ n_ v12 = some r := h
      unfold m_laws_r8At_j2 at h
      refine aw_cond rfl (fun hc13 => ?_) (fun hc13 => ?_)
      · have h := if_bt h hc13
        refine aw_seq ?_
        refine aw_region ?_
        refine awl_val hτ rfl rfl rfl ?_
        refine awl_nil ?_
        refine aw_weak (weak_ofP [] (l := [(6, .d (.int .i64 (0 : Int)))]) (objs := []) rfl (by simp) rfl (by repeat' first | exact trivial | refine ⟨?_, ?_⟩) ⟨rfl, trivial, trivial⟩) ?_
        refine aw_ret ?_
        have hr := Option.some.inj h
        subst hr
        exact ret_objs (.inr rfl) [] (objs' := []) (new := []) rfl (by simp) (by simp) rfl (by repeat' first | exact trivial | refine ⟨?_, ?_⟩) rfl rfl (by repeat' first | exact trivial | refine ⟨?_, ?_⟩) (fun _ => ⟨by simp [V.flat, V.flatA, V.flatC, D.flat], flat_nil⟩) ⟨rfl, rfl, rfl⟩
      · have h := if_bf h hc13
        refine aw_skip ?_
        refine aw_weak (weak_ofP [] (l := [(0, .d (.sl false (code_.map eIntu8))), (1, .d (.int .i64 k_)), (2, .d (.int .i64 n_))]) (objs := []) rfl (by simp) rfl (by repeat' first | exact trivial | refine ⟨?_, ?_⟩) ⟨rfl, trivial, rfl, trivial, rfl, trivial, trivial⟩) ?_
        exact hk9 () h
    · refine aw_seq ?_
      refine aw_region ?_
      refine awl_val hτ rfl rfl rfl ?_
      refine awl_val hτ rfl rfl rfl ?_
      refine awl_val hτ rfl rfl rfl ?_
      refine awl_split 9 rfl (fun hb15 => ?_) (fun hb15 => ?_)
      · have h := if_t h hb15
        refine awl_skip rfl rfl ?_
        refine awl_skip rfl rfl ?_
        refine awl_skip rfl rfl ?_
        refine awl_skip rfl rfl ?_
        refine awl_val hτ rfl rfl rfl ?_
        refine awl_nil ?_
        refine aw_weak (weak_ofP [] (l := [(0, .d (.sl false (code_.map eIntu8))), (1, .d (.int .i64 k_)), (2, .d (.int .i64 n_)), (14, .d (.bool true))]) (objs := []) rfl (by simp) rfl (by repeat' first | exact trivial | refine ⟨?_, ?_⟩) ⟨rfl, trivial, rfl, trivial, rfl, trivial, rfl, trivial, trivial⟩) ?_
        exact hk14 true h
      · have h := if_f h hb15
        refine awl_val hτ rfl rfl rfl ?_
        refine awl_val hτ rfl rfl rfl ?_
        refine awl_val hτ (v := .d (.int .i64 (code_.length : Int))) rfl rfl (Eq.trans rfl (or_len (f := eIntu8) code_)) ?_
        refine awl_val hτ rfl rfl rfl ?_
        refine awl_val hτ rfl rfl rfl ?_
        refine awl_nil ?_
        refine aw_weak (weak_ofP [] (l := [(0, .d (.sl false (code_.map eIntu8))), (1, .d (.int .i64 k_)), (2, .d (.int .i64 n_)), (14, .d (.bool (decide (k_ ≥ (code_.length : Int)))))]) (objs := []) rfl (by simp) rfl (by repeat' first | exact trivial | refine ⟨?_, ?_⟩) ⟨rfl, trivial, rfl, trivial, rfl, trivial, rfl, trivial, trivial⟩) ?_
        exact hk14 (decide (k_ ≥ (code_.length : Int))) h
theorem laws_r8At_ok (n : Nat) (code_ : List Int) (k_ : Int) (n_ : Int) {r : Int} (h : m_laws_r8At n code_ k_ n_ = some r) : ACall prog false 14 [.d (.sl false (code_.map eIntu8)), .d (.int .i64 k_), .d (.int .i64 n_)] [] (fun v o new => v = .d (.int .i64 r) ∧ o = [] ∧ new = []) := laws_r8At_ok_fr0 false n code_ k_ n_ h
theorem laws_r8At_ok_fr (n : Nat) (code_ : List Int) (k_ : Int) (n_ : Int) {r : Int} (h : m_laws_r8At n code_ k_ n_ = some r) : ACall prog true 14 [.d (.sl false (code_.map eIntu8)), .d (.int .i64 k_), .d (.int .i64 n_)] [] (fun v o new => v = .d (.int .i64 r) ∧ o = [] ∧ new = []) := laws_r8At_ok_fr0 true n code_ k_ n_ h

def m_impl_Feeder_kept_2_j1 (n : Nat) (source_ : SPhases) (v41 : List SBus) (v42 : List SBus) : Option SFeeder :=
  some (SFeeder.mk source_ v42)
def m_impl_Feeder_kept_2_j3 (n : Nat) (k65 : List SBus → List SBus → Int → Option SFeeder) (v51 : List SBus) (v53 : Int) (v74 : List SBus) : Option SFeeder :=
  k65 v51 v74 (w64 (v53 + (1 : Int)))
def m_impl_Feeder_kept_2_j4 (n : Nat) (k65 : List SBus → List SBus → Int → Option SFeeder) (v51 : List SBus) (v52 : List SBus) (v53 : Int) (x77 : SBus) (v82 : Int) (v83 : Cx) (v84 : Cx) : Option SFeeder :=
  grd (room (v52.length + 1) 64) <|
  m_impl_Feeder_kept_2_j3 n k65 v51 v53 (v52 ++ [(SBus.mk v82 v83 v84 x77.Kind x77.Load x77.Customers)])
def m_impl_Feeder_kept_2_l2 (n : Nat) (f_ : SFeeder) (source_ : SPhases) (buses_ : List Int) : Nat → List SBus → List SBus → Int → Option SFeeder
  | 0, _, _, _ => none
  | m64 + 1, v51, v52, v53 =>
    if v53 < (buses_.length : Int) then
      (getI buses_ v53).bind fun x76 =>
      (getI f_.Buses x76).bind fun x77 =>
      (m_slices_Index n buses_ x77.Parent).bind fun x78 =>
      if v53 = (0 : Int) then
        m_impl_Feeder_kept_2_j4 n (m_impl_Feeder_kept_2_l2 n f_ source_ buses_ m64) v51 v52 v53 x77 (-1 : Int) (Cx.mk (0 : Nat) (0 : Nat)) (Cx.mk (0 : Nat) (0 : Nat))
      else
        m_impl_Feeder_kept_2_j4 n (m_impl_Feeder_kept_2_l2 n f_ source_ buses_ m64) v51 v52 v53 x77 x78 x77.Own x77.Shared
    else
      m_impl_Feeder_kept_2_j1 n source_ v51 v52
def m_impl_Feeder_kept_2 (n : Nat) (f_ : SFeeder) (source_ : SPhases) (buses_ : List Int) : Option SFeeder :=
  m_impl_Feeder_kept_2_l2 n f_ source_ buses_ n ([] : List SBus) ([] : List SBus) (0 : Int)
theorem impl_Feeder_kept_2_ok (n : Nat) (f_ : SFeeder) (source_ : SPhases) (buses_ : List Int) {r : SFeeder} (h : m_impl_Feeder_kept_2 n f_ source_ buses_ = some r) : ACall prog false 87 [.ptr 0 0, .agg [.d (.cx .f32 source_.A.re source_.A.im), .d (.cx .f32 source_.B.re source_.B.im), .d (.cx .f32 source_.C.re source_.C.im)], .row 1 buses_.length 0 buses_.length] [.box [.d (.cx .f32 f_.Source.A.re f_.Source.A.im), .d (.cx .f32 f_.Source.B.re f_.Source.B.im), .d (.cx .f32 f_.Source.C.re f_.Source.C.im), .d (.sl false (f_.Buses.map eSBus))], .row 1 (buses_.map eInti64)] (fun v o new => v = .agg [.d (.cx .f32 r.Source.A.re r.Source.A.im), .d (.cx .f32 r.Source.B.re r.Source.B.im), .d (.cx .f32 r.Source.C.re r.Source.C.im), .row 2 r.Buses.length 0 r.Buses.length] ∧ o = [.box [.d (.cx .f32 f_.Source.A.re f_.Source.A.im), .d (.cx .f32 f_.Source.B.re f_.Source.B.im), .d (.cx .f32 f_.Source.C.re f_.Source.C.im), .d (.sl false (f_.Buses.map eSBus))], .row 1 (buses_.map eInti64)] ∧ new = [.row 8 (r.Buses.map eSBus)]) := by
  refine acall_of_aw hτ func87 rfl (by simp) (by simp) ?_
  unfold m_impl_Feeder_kept_2 at h
  refine aw_seq ?_
  refine aw_region ?_
  refine awl_valH hτ rfl rfl rfl ?_
  refine awl_valH hτ rfl rfl rfl ?_
  refine awl_nil ?_
  refine aw_seq ?_
  refine aw_region ?_
  refine awl_val hτ rfl rfl rfl ?_
  refine awl_val hτ rfl rfl rfl ?_
  refine awl_valH hτ rfl rfl rfl ?_
  refine awl_valH hτ rfl rfl rfl ?_
  refine awl_nil ?_
  refine aw_hk1 (ι := List SBus × List SBus) (fun (v41, v42) => St.of [(6, .ptr 2 0), (7, .ptr 4 0)] [.box [.d (.cx .f32 f_.Source.A.re f_.Source.A.im), .d (.cx .f32 f_.Source.B.re f_.Source.B.im), .d (.cx .f32 f_.Source.C.re f_.Source.C.im), .d (.sl false (f_.Buses.map eSBus))], .row 1 (buses_.map eInti64), .box [.d (.cx .f32 (0 : Nat) (0 : Nat)), .d (.cx .f32 (0 : Nat) (0 : Nat)), .d (.cx .f32 (0 : Nat) (0 : Nat)), .row 3 v41.length 0 v41.length], .row 8 (v41.map eSBus), .box [.d (.cx .f32 source_.A.re source_.A.im), .d (.cx .f32 source_.B.re source_.B.im), .d (.cx .f32 source_.C.re source_.C.im), .row 5 v42.length 0 v42.length], .row 8 (v42.map eSBus)] f87.ntmps 2) (fun (v41, v42) => m_impl_Feeder_kept_2_j1 n source_ v41 v42 = some r) ?_ (fun hk43 => ?_)
  · rintro ⟨v41, v42⟩ h
    replace h : m_impl_Feeder_kept_2_j1 n source_ v41 v42 = some r := h
    unfold m_impl_Feeder_kept_2_j1 at h
    refine aw_seq ?_
    refine aw_region ?_
    refine awl_val hτ rfl rfl rfl ?_
    refine awl_valH hτ rfl rfl rfl ?_
    refine awl_nil ?_
    refine aw_weak (weak_ofP [0, 1, 2, 5] (l := [(6, .ptr 2 0)]) (objs := [.box [.d (.cx .f32 f_.Source.A.re f_.Source.A.im), .d (.cx .f32 f_.Source.B.re f_.Source.B.im), .d (.cx .f32 f_.Source.C.re f_.Source.C.im), .d (.sl false (f_.Buses.map eSBus))], .row 1 (buses_.map eInti64), .box [.d (.cx .f32 source_.A.re source_.A.im), .d (.cx .f32 source_.B.re source_.B.im), .d (.cx .f32 source_.C.re source_.C.im), .row 3 v42.length 0 v42.length], .row 8 (v42.map eSBus)]) rfl (by simp) rfl (by repeat' first | exact trivial | refine ⟨?_, ?_⟩) ⟨rfl, trivial, trivial⟩) ?_
    refine aw_ret ?_
    have hr := Option.some.inj h
    subst hr
    exact ret_objs (.inr rfl) [3] (objs' := [.box [.d (.cx .f32 f_.Source.A.re f_.Source.A.im), .d (.cx .f32 f_.Source.B.re f_.Source.B.im), .d (.cx .f32 f_.Source.C.re f_.Source.C.im), .d (.sl false (f_.Buses.map eSBus))], .row 1 (buses_.map eInti64)]) (new := [.row 8 (v42.map eSBus)]) rfl (by simp) (by simp) rfl (by repeat' first | exact trivial | refine ⟨?_, ?_⟩) rfl rfl (by repeat' first | exact trivial | refine ⟨?_, ?_⟩) (fun h => nomatch h) ⟨rfl, rfl, rfl⟩
  · refine aw_seq ?_
    refine aw_seq ?_
    refine aw_weak (weak_ofP [0, 1, 3, 4] (l := [(0, .ptr 0 0), (2, .row 1 buses_.length 0 buses_.length), (6, .ptr 2 0), (7, .ptr 3 0)]) (objs := [.box [.d (.cx .f32 f_.Source.A.re f_.Source.A.im), .d (.cx .f32 f_.Source.B.re f_.Source.B.im), .d (.cx .f32 f_.Source.C.re f_.Source.C.im), .d (.sl false (f_.Buses.map eSBus))], .row 1 (buses_.map eInti64), .box [.d (.cx .f32 (0 : Nat) (0 : Nat)), .d (.cx .f32 (0 : Nat) (0 : Nat)), .d (.cx .f32 (0 : Nat) (0 : Nat)), .d (.nils)], .box [.d (.cx .f32 source_.A.re source_.A.im), .d (.cx .f32 source_.B.re source_.B.im), .d (.cx .f32 source_.C.re source_.C.im), .d (.nils)]]) rfl (by simp) rfl (by repeat' first | exact trivial | refine ⟨?_, ?_⟩) ⟨rfl, trivial, rfl, trivial, rfl, trivial, rfl, trivial, trivial⟩) ?_
    refine aw_region ?_
    refine awl_val hτ rfl rfl rfl ?_
    refine awl_need hτ rfl rfl rfl (len_map _) ?_
    refine awl_val hτ rfl rfl rfl ?_
    refine awl_nil ?_
    refine aw_block ?_
    refine aw_loop (ι := Nat × List SBus × List SBus × Int) (fun (m64, v51, v52, v53) => St.of [(0, .ptr 0 0), (2, .row 1 buses_.length 0 buses_.length), (6, .ptr 2 0), (7, .ptr 4 0), (13, .row 1 buses_.length 0 buses_.length), (14, .d (.int .i64 (buses_.length : Int))), (15, .d (.int .i64 v53))] [.box [.d (.cx .f32 f_.Source.A.re f_.Source.A.im), .d (.cx .f32 f_.Source.B.re f_.Source.B.im), .d (.cx .f32 f_.Source.C.re f_.Source.C.im), .d (.sl false (f_.Buses.map eSBus))], .row 1 (buses_.map eInti64), .box [.d (.cx .f32 (0 : Nat) (0 : Nat)), .d (.cx .f32 (0 : Nat) (0 : Nat)), .d (.cx .f32 (0 : Nat) (0 : Nat)), .row 3 v51.length 0 v51.length], .row 8 (v51.map eSBus), .box [.d (.cx .f32 source_.A.re source_.A.im), .d (.cx .f32 source_.B.re source_.B.im), .d (.cx .f32 source_.C.re source_.C.im), .row 5 v52.length 0 v52.length], .row 8 (v52.map eSBus)] f87.ntmps 2) (fun (m64, v51, v52, v53) => m_impl_Feeder_kept_2_l2 n f_ source_ buses_ m64 v51 v52 v53 = some r) (fun x => x.1) (n, ([] : List SBus), ([] : List SBus), (0 : Int)) h (Weak.trans (Weak.trans (weak_ofP [0, 1, 2, 3] (l := [(0, .ptr 0 0), (2, .row 1 buses_.length 0 buses_.length), (6, .ptr 2 0), (7, .ptr 3 0), (13, .row 1 buses_.length 0 buses_.length), (14, .d (.int .i64 (buses_.length : Int))), (15, .d (.int .i64 (0 : Int)))]) (objs := [.box [.d (.cx .f32 f_.Source.A.re f_.Source.A.im), .d (.cx .f32 f_.Source.B.re f_.Source.B.im), .d (.cx .f32 f_.Source.C.re f_.Source.C.im), .d (.sl false (f_.Buses.map eSBus))], .row 1 (buses_.map eInti64), .box [.d (.cx .f32 (0 : Nat) (0 : Nat)), .d (.cx .f32 (0 : Nat) (0 : Nat)), .d (.cx .f32 (0 : Nat) (0 : Nat)), .d (.nils)], .box [.d (.cx .f32 source_.A.re source_.A.im), .d (.cx .f32 source_.B.re source_.B.im), .d (.cx .f32 source_.C.re source_.C.im), .d (.nils)]]) rfl (by simp) rfl (by repeat' first | exact trivial | refine ⟨?_, ?_⟩) ⟨rfl, trivial, rfl, trivial, rfl, trivial, rfl, trivial, rfl, trivial, rfl, trivial, rfl, trivial, trivial⟩) (weak_relax [8, 8] (l' := [(0, .ptr 0 0), (2, .row 1 buses_.length 0 buses_.length), (6, .ptr 2 0), (7, .ptr 3 0), (13, .row 1 buses_.length 0 buses_.length), (14, .d (.int .i64 (buses_.length : Int))), (15, .d (.int .i64 (0 : Int)))]) (objs' := [.box [.d (.cx .f32 f_.Source.A.re f_.Source.A.im), .d (.cx .f32 f_.Source.B.re f_.Source.B.im), .d (.cx .f32 f_.Source.C.re f_.Source.C.im), .d (.sl false (f_.Buses.map eSBus))], .row 1 (buses_.map eInti64), .box [.d (.cx .f32 (0 : Nat) (0 : Nat)), .d (.cx .f32 (0 : Nat) (0 : Nat)), .d (.cx .f32 (0 : Nat) (0 : Nat)), .row 4 (([] : List SBus).length) 0 (([] : List SBus).length)], .box [.d (.cx .f32 source_.A.re source_.A.im), .d (.cx .f32 source_.B.re source_.B.im), .d (.cx .f32 source_.C.re source_.C.im), .row 5 (([] : List SBus).length) 0 (([] : List SBus).length)]]) (.cons (.c (.refl _)) (.cons (.c (.refl _)) (.cons (.c (.refl _)) (.cons (.c (.refl _)) (.cons (.c (.refl _)) (.cons (.c (.refl _)) (.cons (.c (.refl _)) .nil))))))) (.cons (.refl _) (.cons (.refl _) (.cons (.box (.cons (.refl _) (.cons (.refl _) (.cons (.refl _) (.cons (.ghost ⟨Nat.le_of_ble_eq_true rfl, Nat.le_of_ble_eq_true rfl⟩) .nil))))) (.cons (.box (.cons (.refl _) (.cons (.refl _) (.cons (.refl _) (.cons (.ghost ⟨Nat.le_of_ble_eq_true rfl, Nat.le_of_ble_eq_true rfl⟩) .nil))))) .nil)))))) (weak_ofP [0, 1, 2, 4, 3, 5] (l := [(0, .ptr 0 0), (2, .row 1 buses_.length 0 buses_.length), (6, .ptr 2 0), (7, .ptr 4 0), (13, .row 1 buses_.length 0 buses_.length), (14, .d (.int .i64 (buses_.length : Int))), (15, .d (.int .i64 (0 : Int)))]) (objs := [.box [.d (.cx .f32 f_.Source.A.re f_.Source.A.im), .d (.cx .f32 f_.Source.B.re f_.Source.B.im), .d (.cx .f32 f_.Source.C.re f_.Source.C.im), .d (.sl false (f_.Buses.map eSBus))], .row 1 (buses_.map eInti64), .box [.d (.cx .f32 (0 : Nat) (0 : Nat)), .d (.cx .f32 (0 : Nat) (0 : Nat)), .d (.cx .f32 (0 : Nat) (0 : Nat)), .row 3 (([] : List SBus).length) 0 (([] : List SBus).length)], .row 8 (([] : List SBus).map eSBus), .box [.d (.cx .f32 source_.A.re source_.A.im), .d (.cx .f32 source_.B.re source_.B.im), .d (.cx .f32 source_.C.re source_.C.im), .row 5 (([] : List SBus).length) 0 (([] : List SBus).length)], .row 8 (([] : List SBus).map eSBus)]) rfl (by simp) rfl (by repeat' first | exact trivial | refine ⟨?_, ?_⟩) ⟨rfl, trivial, rfl, trivial, rfl, trivial, rfl, trivial, rfl, trivial, rfl, trivial, rfl, trivial, trivial⟩)) ?_
    rintro ⟨m64, v51, v52, v53⟩ h
    replace h : m_impl_Feeder_kept_2_l2 n f_ source_ buses_ m64 v51 v52 v53 = some r := h
    rcases m64 with _ | m64
    · rw [m_impl_Feeder_kept_2_l2] at h; cases h
    rw [m_impl_Feeder_kept_2_l2] at h
    refine aw_seq ?_
    refine aw_region ?_
    refine awl_val hτ rfl rfl rfl ?_
    refine awl_nil ?_
    refine aw_seq ?_
    refine aw_cond rfl (fun hc66 => ?_) (fun hc66 => ?_)
    · have h := if_t h hc66
      refine aw_skip ?_
      refine aw_hk1 (ι := List SBus) (fun v74 => St.of [(0, .ptr 0 0), (2, .row 1 buses_.length 0 buses_.length), (6, .ptr 2 0), (7, .ptr 4 0), (13, .row 1 buses_.length 0 buses_.length), (14, .d (.int .i64 (buses_.length : Int))), (15, .d (.int .i64 v53))] [.box [.d (.cx .f32 f_.Source.A.re f_.Source.A.im), .d (.cx .f32 f_.Source.B.re f_.Source.B.im), .d (.cx .f32 f_.Source.C.re f_.Source.C.im), .d (.sl false (f_.Buses.map eSBus))], .row 1 (buses_.map eInti64), .box [.d (.cx .f32 (0 : Nat) (0 : Nat)), .d (.cx .f32 (0 : Nat) (0 : Nat)), .d (.cx .f32 (0 : Nat) (0 : Nat)), .row 3 v51.length 0 v51.length], .row 8 (v51.map eSBus), .box [.d (.cx .f32 source_.A.re source_.A.im), .d (.cx .f32 source_.B.re source_.B.im), .d (.cx .f32 source_.C.re source_.C.im), .row 5 v74.length 0 v74.length], .row 8 (v74.map eSBus)] f87.ntmps 2) (fun v74 => m_impl_Feeder_kept_2_j3 n (m_impl_Feeder_kept_2_l2 n f_ source_ buses_ m64) v51 v53 v74 = some r) ?_ (fun hk75 => ?_)
      · rintro v74 h
        replace h : m_impl_Feeder_kept_2_j3 n (m_impl_Feeder_kept_2_l2 n f_ source_ buses_ m64) v51 v53 v74 = some r := h
        unfold m_impl_Feeder_kept_2_j3 at h
        refine aw_region ?_
        refine awl_val hτ rfl rfl rfl ?_
        refine awl_val hτ rfl rfl rfl ?_
        refine awl_nil ?_
        exact ⟨(m64, v51, v74, (w64 (v53 + (1 : Int)))), h, Nat.lt_succ_self m64, (weak_ofP [0, 1, 2, 3, 4, 5] (l := [(0, .ptr 0 0), (2, .row 1 buses_.length 0 buses_.length), (6, .ptr 2 0), (7, .ptr 4 0), (13, .row 1 buses_.length 0 buses_.length), (14, .d (.int .i64 (buses_.length : Int))), (15, .d (.int .i64 (w64 (v53 + (1 : Int)))))]) (objs := [.box [.d (.cx .f32 f_.Source.A.re f_.Source.A.im), .d (.cx .f32 f_.Source.B.re f_.Source.B.im), .d (.cx .f32 f_.Source.C.re f_.Source.C.im), .d (.sl false (f_.Buses.map eSBus))], .row 1 (buses_.map eInti64), .box [.d (.cx .f32 (0 : Nat) (0 : Nat)), .d (.cx .f32 (0 : Nat) (0 : Nat)), .d (.cx .f32 (0 : Nat) (0 : Nat)), .row 3 v51.length 0 v51.length], .row 8 (v51.map eSBus), .box [.d (.cx .f32 source_.A.re source_.A.im), .d (.cx .f32 source_.B.re source_.B.im), .d (.cx .f32 source_.C.re source_.C.im), .row 5 v74.length 0 v74.length], .row 8 (v74.map eSBus)]) rfl (by simp) rfl (by repeat' first | exact trivial | refine ⟨?_, ?_⟩) ⟨rfl, trivial, rfl, trivial, rfl, trivial, rfl, trivial, rfl, trivial, rfl, trivial, rfl, trivial, trivial⟩)⟩
      · refine aw_seq ?_
        refine aw_block ?_
        refine aw_seq ?_
        refine aw_region ?_
        refine awl_val hτ rfl rfl rfl ?_
        refine bnd_elim h fun x76 hx76 h => ?_
        refine awl_need hτ rfl rfl rfl (row_need hx76) ?_
        refine awl_elem hτ rfl rfl rfl (len_map _) (row_get hx76) rfl ?_
        refine awl_val hτ rfl rfl rfl ?_
        refine awl_val hτ rfl rfl rfl ?_
        refine awl_nil ?_
        refine aw_seq ?_
        refine aw_weak (weak_ofP [0, 1, 2, 3, 4, 5] (l := [(0, .ptr 0 0), (2, .row 1 buses_.length 0 buses_.length), (6, .ptr 2 0), (7, .ptr 4 0), (8, .d (.int .i64 v53)), (9, .d (.int .i64 x76)), (13, .row 1 buses_.length 0 buses_.length), (14, .d (.int .i64 (buses_.length : Int))), (15, .d (.int .i64 v53))]) (objs := [.box [.d (.cx .f32 f_.Source.A.re f_.Source.A.im), .d (.cx .f32 f_.Source.B.re f_.Source.B.im), .d (.cx .f32 f_.Source.C.re f_.Source.C.im), .d (.sl false (f_.Buses.map eSBus))], .row 1 (buses_.map eInti64), .box [.d (.cx .f32 (0 : Nat) (0 : Nat)), .d (.cx .f32 (0 : Nat) (0 : Nat)), .d (.cx .f32 (0 : Nat) (0 : Nat)), .row 3 v51.length 0 v51.length], .row 8 (v51.map eSBus), .box [.d (.cx .f32 source_.A.re source_.A.im), .d (.cx .f32 source_.B.re source_.B.im), .d (.cx .f32 source_.C.re source_.C.im), .row 5 v52.length 0 v52.length], .row 8 (v52.map eSBus)]) rfl (by simp) rfl (by repeat' first | exact trivial | refine ⟨?_, ?_⟩) ⟨rfl, trivial, rfl, trivial, rfl, trivial, rfl, trivial, rfl, trivial, rfl, trivial, rfl, trivial, rfl, trivial, rfl, trivial, trivial⟩) ?_
        refine aw_region ?_
        refine awl_val hτ rfl rfl rfl ?_
        refine awl_val hτ rfl rfl rfl ?_
        refine awl_val hτ rfl rfl rfl ?_
        refine awl_val hτ rfl rfl rfl ?_
        refine awl_val hτ rfl rfl rfl ?_
        refine bnd_elim h fun x77 hx77 h => ?_
        refine awl_elem hτ rfl rfl rfl (getI_some hx77).1 (map_getI hx77) rfl ?_
        refine awl_val hτ rfl rfl rfl ?_
        refine awl_valH hτ rfl rfl rfl ?_
        refine awl_valH hτ rfl rfl rfl ?_
        refine awl_nil ?_
        refine aw_seq ?_
        refine aw_weak (weak_ofP [0, 1, 2, 3, 4, 5, 6] (l := [(0, .ptr 0 0), (2, .row 1 buses_.length 0 buses_.length), (6, .ptr 2 0), (7, .ptr 4 0), (8, .d (.int .i64 v53)), (10, .ptr 6 0), (13, .row 1 buses_.length 0 buses_.length), (14, .d (.int .i64 (buses_.length : Int))), (15, .d (.int .i64 v53))]) (objs := [.box [.d (.cx .f32 f_.Source.A.re f_.Source.A.im), .d (.cx .f32 f_.Source.B.re f_.Source.B.im), .d (.cx .f32 f_.Source.C.re f_.Source.C.im), .d (.sl false (f_.Buses.map eSBus))], .row 1 (buses_.map eInti64), .box [.d (.cx .f32 (0 : Nat) (0 : Nat)), .d (.cx .f32 (0 : Nat) (0 : Nat)), .d (.cx .f32 (0 : Nat) (0 : Nat)), .row 3 v51.length 0 v51.length], .row 8 (v51.map eSBus), .box [.d (.cx .f32 source_.A.re source_.A.im), .d (.cx .f32 source_.B.re source_.B.im), .d (.cx .f32 source_.C.re source_.C.im), .row 5 v52.length 0 v52.length], .row 8 (v52.map eSBus), .box [.d (.int .i64 x77.Parent), .d (.cx .f32 x77.Own.re x77.Own.im), .d (.cx .f32 x77.Shared.re x77.Shared.im), .d (.int .i64 x77.Kind), .d (.cx .f32 x77.Load.A.re x77.Load.A.im), .d (.cx .f32 x77.Load.B.re x77.Load.B.im), .d (.cx .f32 x77.Load.C.re x77.Load.C.im), .d (.int .i64 x77.Customers)]]) rfl (by simp) rfl (by repeat' first | exact trivial | refine ⟨?_, ?_⟩) ⟨rfl, trivial, rfl, trivial, rfl, trivial, rfl, trivial, rfl, trivial, rfl, trivial, rfl, trivial, rfl, trivial, rfl, trivial, trivial⟩) ?_
        refine aw_region ?_
        refine awl_val hτ rfl rfl rfl ?_
        refine awl_val hτ rfl rfl rfl ?_
        refine awl_val hτ rfl rfl rfl ?_
        refine awl_weak (weak_ofP [0, 1, 2, 3, 4, 5, 6] (l := [(0, .ptr 0 0), (2, .row 1 buses_.length 0 buses_.length), (6, .ptr 2 0), (7, .ptr 4 0), (8, .d (.int .i64 v53)), (10, .ptr 6 0), (13, .row 1 buses_.length 0 buses_.length), (14, .d (.int .i64 (buses_.length : Int))), (15, .d (.int .i64 v53)), (27, .row 1 buses_.length 0 buses_.length), (29, .d (.int .i64 x77.Parent))]) (objs := [.box [.d (.cx .f32 f_.Source.A.re f_.Source.A.im), .d (.cx .f32 f_.Source.B.re f_.Source.B.im), .d (.cx .f32 f_.Source.C.re f_.Source.C.im), .d (.sl false (f_.Buses.map eSBus))], .row 1 (buses_.map eInti64), .box [.d (.cx .f32 (0 : Nat) (0 : Nat)), .d (.cx .f32 (0 : Nat) (0 : Nat)), .d (.cx .f32 (0 : Nat) (0 : Nat)), .row 3 v51.length 0 v51.length], .row 8 (v51.map eSBus), .box [.d (.cx .f32 source_.A.re source_.A.im), .d (.cx .f32 source_.B.re source_.B.im), .d (.cx .f32 source_.C.re source_.C.im), .row 5 v52.length 0 v52.length], .row 8 (v52.map eSBus), .box [.d (.int .i64 x77.Parent), .d (.cx .f32 x77.Own.re x77.Own.im), .d (.cx .f32 x77.Shared.re x77.Shared.im), .d (.int .i64 x77.Kind), .d (.cx .f32 x77.Load.A.re x77.Load.A.im), .d (.cx .f32 x77.Load.B.re x77.Load.B.im), .d (.cx .f32 x77.Load.C.re x77.Load.C.im), .d (.int .i64 x77.Customers)]]) rfl (by simp) rfl (by repeat' first | exact trivial | refine ⟨?_, ?_⟩) ⟨rfl, trivial, rfl, trivial, rfl, trivial, rfl, trivial, rfl, trivial, rfl, trivial, rfl, trivial, rfl, trivial, rfl, trivial, rfl, trivial, rfl, trivial, trivial⟩) ?_
        refine bnd_elim h fun x78 hx78 h => ?_
        refine awl_callP hτ true [] rfl rfl rfl (enterOk func145 rfl rfl) (mapO_cons (exV_view (f := eInti64) buses_ rfl rfl rfl) (mapO_cons rfl mapO_nil)) rfl (by simp) ⟨(exVP_view (f := eInti64) buses_ rfl rfl rfl), trivial, trivial⟩ (by repeat' first | exact trivial | refine ⟨?_, ?_⟩) (slices_Index_ok_fr n buses_ x77.Parent hx78) ?_
        rintro r0 o0 n0 ⟨rfl, rfl, rfl⟩ -
        refine awl_val hτ rfl rfl rfl ?_
        refine awl_valH hτ rfl rfl rfl ?_
        refine awl_nil ?_
        refine aw_hk1 (ι := Int × Cx × Cx) (fun (v82, v83, v84) => St.of [(0, .ptr 0 0), (2, .row 1 buses_.length 0 buses_.length), (6, .ptr 2 0), (7, .ptr 4 0), (10, .ptr 6 0), (13, .row 1 buses_.length 0 buses_.length), (14, .d (.int .i64 (buses_.length : Int))), (15, .d (.int .i64 v53))] [.box [.d (.cx .f32 f_.Source.A.re f_.Source.A.im), .d (.cx .f32 f_.Source.B.re f_.Source.B.im), .d (.cx .f32 f_.Source.C.re f_.Source.C.im), .d (.sl false (f_.Buses.map eSBus))], .row 1 (buses_.map eInti64), .box [.d (.cx .f32 (0 : Nat) (0 : Nat)), .d (.cx .f32 (0 : Nat) (0 : Nat)), .d (.cx .f32 (0 : Nat) (0 : Nat)), .row 3 v51.length 0 v51.length], .row 8 (v51.map eSBus), .box [.d (.cx .f32 source_.A.re source_.A.im), .d (.cx .f32 source_.B.re source_.B.im), .d (.cx .f32 source_.C.re source_.C.im), .row 5 v52.length 0 v52.length], .row 8 (v52.map eSBus), .box [.d (.int .i64 v82), .d (.cx .f32 v83.re v83.im), .d (.cx .f32 v84.re v84.im), .d (.int .i64 x77.Kind), .d (.cx .f32 x77.Load.A.re x77.Load.A.im), .d (.cx .f32 x77.Load.B.re x77.Load.B.im), .d (.cx .f32 x77.Load.C.re x77.Load.C.im), .d (.int .i64 x77.Customers)]] f87.ntmps 2) (fun (v82, v83, v84) => m_impl_Feeder_kept_2_j4 n (m_impl_Feeder_kept_2_l2 n f_ source_ buses_ m64) v51 v52 v53 x77 v82 v83 v84 = some r) ?_ (fun hk86 => ?_)
        · rintro ⟨v82, v83, v84⟩ h
          replace h : m_impl_Feeder_kept_2_j4 n (m_impl_Feeder_kept_2_l2 n f_ source_ buses_ m64) v51 v52 v53 x77 v82 v83 v84 = some r := h
          unfold m_impl_Feeder_kept_2_j4 at h
          refine aw_region ?_
          refine awl_val hτ rfl rfl rfl ?_
          refine awl_val hτ rfl rfl rfl ?_
          refine awl_val hτ rfl rfl rfl ?_
          refine awl_valH hτ rfl rfl rfl ?_
          refine grd_elim h fun hg85 h => ?_
          refine awl_needH hτ rfl rfl (Eq.trans rfl (or_append (f := eSBus) v52 [(SBus.mk v82 v83 v84 x77.Kind x77.Load x77.Customers)] rfl)) ⟨⟨rfl, Nat.le_of_ble_eq_true rfl⟩, len_map _, rfl, rfl, hg85, by decide, (all1 rfl)⟩ ?_
          refine awl_val hτ rfl rfl rfl ?_
          refine awl_valH hτ rfl rfl rfl ?_
          refine awl_nil ?_
          refine aw_weak (weak_ofP [0, 1, 2, 3, 4, 5] (l := [(0, .ptr 0 0), (2, .row 1 buses_.length 0 buses_.length), (6, .ptr 2 0), (7, .ptr 4 0), (13, .row 1 buses_.length 0 buses_.length), (14, .d (.int .i64 (buses_.length : Int))), (15, .d (.int .i64 v53))]) (objs := [.box [.d (.cx .f32 f_.Source.A.re f_.Source.A.im), .d (.cx .f32 f_.Source.B.re f_.Source.B.im), .d (.cx .f32 f_.Source.C.re f_.Source.C.im), .d (.sl false (f_.Buses.map eSBus))], .row 1 (buses_.map eInti64), .box [.d (.cx .f32 (0 : Nat) (0 : Nat)), .d (.cx .f32 (0 : Nat) (0 : Nat)), .d (.cx .f32 (0 : Nat) (0 : Nat)), .row 3 v51.length 0 v51.length], .row 8 (v51.map eSBus), .box [.d (.cx .f32 source_.A.re source_.A.im), .d (.cx .f32 source_.B.re source_.B.im), .d (.cx .f32 source_.C.re source_.C.im), .row 5 ((v52 ++ [(SBus.mk v82 v83 v84 x77.Kind x77.Load x77.Customers)]).length) 0 ((v52 ++ [(SBus.mk v82 v83 v84 x77.Kind x77.Load x77.Customers)]).length)], .row 8 ((v52 ++ [(SBus.mk v82 v83 v84 x77.Kind x77.Load x77.Customers)]).map eSBus)]) rfl (by simp) rfl (by repeat' first | exact trivial | refine ⟨?_, ?_⟩) ⟨rfl, trivial, rfl, trivial, rfl, trivial, rfl, trivial, rfl, trivial, rfl, trivial, rfl, trivial, trivial⟩) ?_
          exact hk75 (v52 ++ [(SBus.mk v82 v83 v84 x77.Kind x77.Load x77.Customers)]) h
        · refine aw_seq ?_
          refine aw_seq ?_
          refine aw_region ?_
          refine awl_val hτ rfl rfl rfl ?_
          refine awl_val hτ (v := .d (.bool (decide (v53 = (0 : Int))))) rfl rfl (or_ieq _ _) ?_
          refine awl_nil ?_
          refine aw_cond rfl (fun hc87 => ?_) (fun hc87 => ?_)
          · have h := if_t h hc87
            refine aw_region ?_
            refine awl_val hτ rfl rfl rfl ?_
            refine awl_valH hτ rfl rfl rfl ?_
            refine awl_val hτ rfl rfl rfl ?_
            refine awl_valH hτ rfl rfl rfl ?_
            refine awl_val hτ rfl rfl rfl ?_
            refine awl_valH hτ rfl rfl rfl ?_
            refine awl_nil ?_
            refine aw_weak (weak_ofP [0, 1, 2, 3, 4, 5, 6] (l := [(0, .ptr 0 0), (2, .row 1 buses_.length 0 buses_.length), (6, .ptr 2 0), (7, .ptr 4 0), (10, .ptr 6 0), (13, .row 1 buses_.length 0 buses_.length), (14, .d (.int .i64 (buses_.length : Int))), (15, .d (.int .i64 v53))]) (objs := [.box [.d (.cx .f32 f_.Source.A.re f_.Source.A.im), .d (.cx .f32 f_.Source.B.re f_.Source.B.im), .d (.cx .f32 f_.Source.C.re f_.Source.C.im), .d (.sl false (f_.Buses.map eSBus))], .row 1 (buses_.map eInti64), .box [.d (.cx .f32 (0 : Nat) (0 : Nat)), .d (.cx .f32 (0 : Nat) (0 : Nat)), .d (.cx .f32 (0 : Nat) (0 : Nat)), .row 3 v51.length 0 v51.length], .row 8 (v51.map eSBus), .box [.d (.cx .f32 source_.A.re source_.A.im), .d (.cx .f32 source_.B.re source_.B.im), .d (.cx .f32 source_.C.re source_.C.im), .row 5 v52.length 0 v52.length], .row 8 (v52.map eSBus), .box [.d (.int .i64 (-1 : Int)), .d (.cx .f32 (0 : Nat) (0 : Nat)), .d (.cx .f32 (0 : Nat) (0 : Nat)), .d (.int .i64 x77.Kind), .d (.cx .f32 x77.Load.A.re x77.Load.A.im), .d (.cx .f32 x77.Load.B.re x77.Load.B.im), .d (.cx .f32 x77.Load.C.re x77.Load.C.im), .d (.int .i64 x77.Customers)]]) rfl (by simp) rfl (by repeat' first | exact trivial | refine ⟨?_, ?_⟩) ⟨rfl, trivial, rfl, trivial, rfl, trivial, rfl, trivial, rfl, trivial, rfl, trivial, rfl, trivial, rfl, trivial, trivial⟩) ?_
            exact hk86 ((-1 : Int), (Cx.mk (0 : Nat) (0 : Nat)), (Cx.mk (0 : Nat) (0 : Nat))) h
          · have h := if_f h hc87
            refine aw_skip ?_
            refine aw_weak (weak_ofP [0, 1, 2, 3, 4, 5, 6] (l := [(0, .ptr 0 0), (2, .row 1 buses_.length 0 buses_.length), (6, .ptr 2 0), (7, .ptr 4 0), (10, .ptr 6 0), (13, .row 1 buses_.length 0 buses_.length), (14, .d (.int .i64 (buses_.length : Int))), (15, .d (.int .i64 v53))]) (objs := [.box [.d (.cx .f32 f_.Source.A.re f_.Source.A.im), .d (.cx .f32 f_.Source.B.re f_.Source.B.im), .d (.cx .f32 f_.Source.C.re f_.Source.C.im), .d (.sl false (f_.Buses.map eSBus))], .row 1 (buses_.map eInti64), .box [.d (.cx .f32 (0 : Nat) (0 : Nat)), .d (.cx .f32 (0 : Nat) (0 : Nat)), .d (.cx .f32 (0 : Nat) (0 : Nat)), .row 3 v51.length 0 v51.length], .row 8 (v51.map eSBus), .box [.d (.cx .f32 source_.A.re source_.A.im), .d (.cx .f32 source_.B.re source_.B.im), .d (.cx .f32 source_.C.re source_.C.im), .row 5 v52.length 0 v52.length], .row 8 (v52.map eSBus), .box [.d (.int .i64 x78), .d (.cx .f32 x77.Own.re x77.Own.im), .d (.cx .f32 x77.Shared.re x77.Shared.im), .d (.int .i64 x77.Kind), .d (.cx .f32 x77.Load.A.re x77.Load.A.im), .d (.cx .f32 x77.Load.B.re x77.Load.B.im), .d (.cx .f32 x77.Load.C.re x77.Load.C.im), .d (.int .i64 x77.Customers)]]) rfl (by simp) rfl (by repeat' first | exact trivial | refine ⟨?_, ?_⟩) ⟨rfl, trivial, rfl, trivial, rfl, trivial, rfl, trivial, rfl, trivial, rfl, trivial, rfl, trivial, rfl, trivial, trivial⟩) ?_
            exact hk86 (x78, x77.Own, x77.Shared) h
    · have h := if_f h hc66
      refine aw_exit ?_
      refine aw_weak (weak_ofP [0, 1, 2, 3, 4, 5] (l := [(6, .ptr 2 0), (7, .ptr 4 0)]) (objs := [.box [.d (.cx .f32 f_.Source.A.re f_.Source.A.im), .d (.cx .f32 f_.Source.B.re f_.Source.B.im), .d (.cx .f32 f_.Source.C.re f_.Source.C.im), .d (.sl false (f_.Buses.map eSBus))], .row 1 (buses_.map eInti64), .box [.d (.cx .f32 (0 : Nat) (0 : Nat)), .d (.cx .f32 (0 : Nat) (0 : Nat)), .d (.cx .f32 (0 : Nat) (0 : Nat)), .row 3 v51.length 0 v51.length], .row 8 (v51.map eSBus), .box [.d (.cx .f32 source_.A.re source_.A.im), .d (.cx .f32 source_.B.re source_.B.im), .d (.cx .f32 source_.C.re source_.C.im), .row 5 v52.length 0 v52.length], .row 8 (v52.map eSBus)]) rfl (by simp) rfl (by repeat' first | exact trivial | refine ⟨?_, ?_⟩) ⟨rfl, trivial, rfl, trivial, trivial⟩) ?_
      exact hk43 (v51, v52) h

def m_impl_PartFeeder (n : Nat) (f_ : SFeeder) (bus_ : Int) (source_ : SPhases) : Option (SFeeder × Bool) :=
  (m_impl_Feeder_has n f_ bus_).bind fun x5 =>
  if x5 = true then
    (m_impl_Feeder_below n f_ bus_).bind fun x7 =>
    (m_impl_Feeder_kept_2 n f_ source_ x7).bind fun x8 =>
    some ((SFeeder.mk x8.Source x8.Buses), true)
  else
    some ((SFeeder.mk (SPhases.mk (Cx.mk (0 : Nat) (0 : Nat)) (Cx.mk (0 : Nat) (0 : Nat)) (Cx.mk (0 : Nat) (0 : Nat))) ([] : List SBus)), false)
theorem impl_PartFeeder_ok_fr0 (fr : Bool) (n : Nat) (f_ : SFeeder) (bus_ : Int) (source_ : SPhases) {r : SFeeder × Bool} (h : m_impl_PartFeeder n f_ bus_ source_ = some r) : ACall prog fr 23 [.agg [.d (.cx .f32 f_.Source.A.re f_.Source.A.im), .d (.cx .f32 f_.Source.B.re f_.Source.B.im), .d (.cx .f32 f_.Source.C.re f_.Source.C.im), .d (.sl false (f_.Buses.map eSBus))], .d (.int .i64 bus_), .agg [.d (.cx .f32 source_.A.re source_.A.im), .d (.cx .f32 source_.B.re source_.B.im), .d (.cx .f32 source_.C.re source_.C.im)]] [] (fun v o new => v = .tup [.agg [.d (.cx .f32 r.1.Source.A.re r.1.Source.A.im), .d (.cx .f32 r.1.Source.B.re r.1.Source.B.im), .d (.cx .f32 r.1.Source.C.re r.1.Source.C.im), .row 0 r.1.Buses.length 0 r.1.Buses.length], .d (.bool r.2)] ∧ o = [] ∧ new = [.row 8 (r.1.Buses.map eSBus)]) := by
  refine acall_of_aw hτ func23 rfl (by simp) (by simp) ?_
  unfold m_impl_PartFeeder at h
  refine aw_seq ?_
  refine aw_region ?_
  refine awl_valH hτ rfl rfl rfl ?_
  refine awl_valH hτ rfl rfl rfl ?_
  refine awl_valH hτ rfl rfl rfl ?_
  refine awl_val hτ rfl rfl rfl ?_
  refine awl_nil ?_
  refine aw_seq ?_
  refine aw_seq ?_
  refine aw_region ?_
  refine awl_val hτ rfl rfl rfl ?_
  refine bnd_elim h fun x5 hx5 h => ?_
  refine awl_callP hτ false [0] rfl rfl rfl (enterOk func79 rfl rfl) rfl rfl (by simp) ⟨trivial, trivial, trivial⟩ (by repeat' first | exact trivial | refine ⟨?_, ?_⟩) (impl_Feeder_has_ok n f_ bus_ hx5) ?_
  rintro r0 o0 n0 ⟨rfl, rfl, rfl⟩ -
  refine awl_val hτ rfl rfl rfl ?_
  refine awl_nil ?_
  refine aw_weak (weak_ofP [0, 1, 2] (l := [(1, .d (.int .i64 bus_)), (3, .ptr 0 0), (5, .ptr 1 0), (6, .ptr 2 0), (10, .d (.bool (!x5)))]) (objs := [.box [.d (.cx .f32 f_.Source.A.re f_.Source.A.im), .d (.cx .f32 f_.Source.B.re f_.Source.B.im), .d (.cx .f32 f_.Source.C.re f_.Source.C.im), .d (.sl false (f_.Buses.map eSBus))], .box [.d (.cx .f32 source_.A.re source_.A.im), .d (.cx .f32 source_.B.re source_.B.im), .d (.cx .f32 source_.C.re source_.C.im)], .box [.d (.cx .f32 (0 : Nat) (0 : Nat)), .d (.cx .f32 (0 : Nat) (0 : Nat)), .d (.cx .f32 (0 : Nat) (0 : Nat)), .d (.nils)]]) rfl (by simp) rfl (by repeat' first | exact trivial | refine ⟨?_, ?_⟩) ⟨rfl, trivial, rfl, trivial, rfl, trivial, rfl, trivial, rfl, trivial, trivial⟩) ?_
  refine aw_cond rfl (fun hc6 => ?_) (fun hc6 => ?_)
  · have hc6 := not_t hc6
    have h := if_bf h hc6
    refine aw_seq ?_
    refine aw_region ?_
    refine awl_val hτ rfl rfl rfl ?_
    refine awl_valH hτ rfl rfl rfl ?_
    refine awl_val hτ rfl rfl rfl ?_
    refine awl_nil ?_
    refine aw_weak (weak_ofP [2] (l := [(6, .ptr 0 0), (7, .d (.bool false))]) (objs := [.box [.d (.cx .f32 (0 : Nat) (0 : Nat)), .d (.cx .f32 (0 : Nat) (0 : Nat)), .d (.cx .f32 (0 : Nat) (0 : Nat)), .d (.nils)]]) rfl (by simp) rfl (by repeat' first | exact trivial | refine ⟨?_, ?_⟩) ⟨rfl, trivial, rfl, trivial, trivial⟩) ?_
    refine aw_weak (weak_relax [8] (l' := [(6, .ptr 0 0), (7, .d (.bool false))]) (objs' := [.box [.d (.cx .f32 (0 : Nat) (0 : Nat)), .d (.cx .f32 (0 : Nat) (0 : Nat)), .d (.cx .f32 (0 : Nat) (0 : Nat)), .row 1 (([] : List SBus).length) 0 (([] : List SBus).length)]]) (.cons (.c (.refl _)) (.cons (.c (.refl _)) .nil)) (.cons (.box (.cons (.refl _) (.cons (.refl _) (.cons (.refl _) (.cons (.ghost ⟨Nat.le_of_ble_eq_true rfl, Nat.le_of_ble_eq_true rfl⟩) .nil))))) .nil)) ?_
    refine aw_ret ?_
    have hr := Option.some.inj h
    subst hr
    exact ret_objs (.inr rfl) [1] (objs' := []) (new := [.row 8 (([] : List SBus).map eSBus)]) rfl (by simp) (by simp) rfl (by repeat' first | exact trivial | refine ⟨?_, ?_⟩) rfl rfl (by repeat' first | exact trivial | refine ⟨?_, ?_⟩) (fun _ => ⟨by simp [V.flat, V.flatA, V.flatC, D.flat], (flat_cons (flat_row eSBus_flat _) flat_nil)⟩) ⟨rfl, rfl, rfl⟩
  · have hc6 := not_f hc6
    have h := if_bt h hc6
    refine aw_skip ?_
    refine aw_seq ?_
    refine any_start ?_
    refine any_val hτ [1] 0 rfl rfl rfl rfl rfl ?_
    refine any_val hτ [] 1 rfl rfl rfl rfl rfl ?_
    refine bnd_elim h fun x7 hx7 h => ?_
    refine any_callP hτ false [0] [1, 2] 2 rfl rfl rfl rfl (enterOk func81 rfl rfl) rfl rfl (by simp) ⟨trivial, trivial, trivial⟩ (by repeat' first | exact trivial | refine ⟨?_, ?_⟩) (impl_Feeder_below_ok n f_ bus_ hx7) ⟨rfl, rfl, trivial⟩ ?_
    refine bnd_elim h fun x8 hx8 h => ?_
    refine any_callP hτ false [0, 3] [1, 2] 3 rfl rfl rfl rfl (enterOk func87 rfl rfl) rfl rfl (by simp) ⟨trivial, (by repeat' first | exact trivial | refine ⟨?_, ?_⟩), trivial, trivial⟩ (by repeat' first | exact trivial | refine ⟨?_, ?_⟩) (impl_Feeder_kept_2_ok n f_ source_ x7 hx8) ⟨rfl, rfl, trivial⟩ ?_
    refine any_valHP hτ [0, 1, 3, 4] 4 rfl rfl rfl rfl ⟨rfl, rfl, rfl, rfl, trivial⟩ ?_
    refine any_val hτ [] 5 rfl rfl rfl rfl rfl ?_
    refine any_done mixed (by kernel_rfl) ?_
    refine aw_weak (weak_ofP [2, 4] (l := [(6, .ptr 0 0), (7, .d (.bool true))]) (objs := [.box [.d (.cx .f32 x8.Source.A.re x8.Source.A.im), .d (.cx .f32 x8.Source.B.re x8.Source.B.im), .d (.cx .f32 x8.Source.C.re x8.Source.C.im), .row 1 x8.Buses.length 0 x8.Buses.length], .row 8 (x8.Buses.map eSBus)]) rfl (by simp) rfl (by repeat' first | exact trivial | refine ⟨?_, ?_⟩) ⟨rfl, trivial, rfl, trivial, trivial⟩) ?_
    refine aw_ret ?_
    have hr := Option.some.inj h
    subst hr
    exact ret_objs (.inr rfl) [1] (objs' := []) (new := [.row 8 (x8.Buses.map eSBus)]) rfl (by simp) (by simp) rfl (by repeat' first | exact trivial | refine ⟨?_, ?_⟩) rfl rfl (by repeat' first | exact trivial | refine ⟨?_, ?_⟩) (fun _ => ⟨by simp [V.flat, V.flatA, V.flatC, D.flat], (flat_cons (flat_row eSBus_flat _) flat_nil)⟩) ⟨rfl, rfl, rfl⟩
theorem impl_PartFeeder_ok (n : Nat) (f_ : SFeeder) (bus_ : Int) (source_ : SPhases) {r : SFeeder × Bool} (h : m_impl_PartFeeder n f_ bus_ source_ = some r) : ACall prog false 23 [.agg [.d (.cx .f32 f_.Source.A.re f_.Source.A.im), .d (.cx .f32 f_.Source.B.re f_.Source.B.im), .d (.cx .f32 f_.Source.C.re f_.Source.C.im), .d (.sl false (f_.Buses.map eSBus))], .d (.int .i64 bus_), .agg [.d (.cx .f32 source_.A.re source_.A.im), .d (.cx .f32 source_.B.re source_.B.im), .d (.cx .f32 source_.C.re source_.C.im)]] [] (fun v o new => v = .tup [.agg [.d (.cx .f32 r.1.Source.A.re r.1.Source.A.im), .d (.cx .f32 r.1.Source.B.re r.1.Source.B.im), .d (.cx .f32 r.1.Source.C.re r.1.Source.C.im), .row 0 r.1.Buses.length 0 r.1.Buses.length], .d (.bool r.2)] ∧ o = [] ∧ new = [.row 8 (r.1.Buses.map eSBus)]) := impl_PartFeeder_ok_fr0 false n f_ bus_ source_ h
theorem impl_PartFeeder_ok_fr (n : Nat) (f_ : SFeeder) (bus_ : Int) (source_ : SPhases) {r : SFeeder × Bool} (h : m_impl_PartFeeder n f_ bus_ source_ = some r) : ACall prog true 23 [.agg [.d (.cx .f32 f_.Source.A.re f_.Source.A.im), .d (.cx .f32 f_.Source.B.re f_.Source.B.im), .d (.cx .f32 f_.Source.C.re f_.Source.C.im), .d (.sl false (f_.Buses.map eSBus))], .d (.int .i64 bus_), .agg [.d (.cx .f32 source_.A.re source_.A.im), .d (.cx .f32 source_.B.re source_.B.im), .d (.cx .f32 source_.C.re source_.C.im)]] [] (fun v o new => v = .tup [.agg [.d (.cx .f32 r.1.Source.A.re r.1.Source.A.im), .d (.cx .f32 r.1.Source.B.re r.1.Source.B.im), .d (.cx .f32 r.1.Source.C.re r.1.Source.C.im), .row 0 r.1.Buses.length 0 r.1.Buses.length], .d (.bool r.2)] ∧ o = [] ∧ new = [.row 8 (r.1.Buses.map eSBus)]) := impl_PartFeeder_ok_fr0 true n f_ bus_ source_ h

def m_impl_BusesBelow (n : Nat) (f_ : SFeeder) (bus_ : Int) : Option (List Int × Bool) :=
  (m_impl_Feeder_has n f_ bus_).bind fun x4 =>
  if x4 = true then
    (m_impl_Feeder_below n f_ bus_).bind fun x6 =>
    some (x6, true)
  else
    some (([] : List Int), false)
theorem impl_BusesBelow_ok_fr0 (fr : Bool) (n : Nat) (f_ : SFeeder) (bus_ : Int) {r : List Int × Bool} (h : m_impl_BusesBelow n f_ bus_ = some r) : ACall prog fr 16 [.agg [.d (.cx .f32 f_.Source.A.re f_.Source.A.im), .d (.cx .f32 f_.Source.B.re f_.Source.B.im), .d (.cx .f32 f_.Source.C.re f_.Source.C.im), .d (.sl false (f_.Buses.map eSBus))], .d (.int .i64 bus_)] [] (fun v o new => v = .tup [.row 0 r.1.length 0 r.1.length, .d (.bool r.2)] ∧ o = [] ∧ new = [.row 1 (r.1.map eInti64)]) := by
  refine acall_of_aw hτ func16 rfl (by simp) (by simp) ?_
  unfold m_impl_BusesBelow at h
  refine aw_seq ?_
  refine aw_region ?_
  refine awl_valH hτ rfl rfl rfl ?_
  refine awl_val hτ rfl rfl rfl ?_
  refine awl_val hτ rfl rfl rfl ?_
  refine awl_nil ?_
  refine aw_seq ?_
  refine aw_seq ?_
  refine aw_region ?_
  refine awl_val hτ rfl rfl rfl ?_
  refine bnd_elim h fun x4 hx4 h => ?_
  refine awl_callP hτ false [0] rfl rfl rfl (enterOk func79 rfl rfl) rfl rfl (by simp) ⟨trivial, trivial, trivial⟩ (by repeat' first | exact trivial | refine ⟨?_, ?_⟩) (impl_Feeder_has_ok n f_ bus_ hx4) ?_
  rintro r0 o0 n0 ⟨rfl, rfl, rfl⟩ -
  refine awl_val hτ rfl rfl rfl ?_
  refine awl_nil ?_
  refine aw_weak (weak_ofP [0] (l := [(1, .d (.int .i64 bus_)), (2, .ptr 0 0), (8, .d (.bool (!x4)))]) (objs := [.box [.d (.cx .f32 f_.Source.A.re f_.Source.A.im), .d (.cx .f32 f_.Source.B.re f_.Source.B.im), .d (.cx .f32 f_.Source.C.re f_.Source.C.im), .d (.sl false (f_.Buses.map eSBus))]]) rfl (by simp) rfl (by repeat' first | exact trivial | refine ⟨?_, ?_⟩) ⟨rfl, trivial, rfl, trivial, rfl, trivial, trivial⟩) ?_
  refine aw_cond rfl (fun hc5 => ?_) (fun hc5 => ?_)
  · have hc5 := not_t hc5
    have h := if_bf h hc5
    refine aw_seq ?_
    refine aw_region ?_
    refine awl_val hτ rfl rfl rfl ?_
    refine awl_val hτ rfl rfl rfl ?_
    refine awl_nil ?_
    refine aw_weak (weak_ofP [] (l := [(4, .d (.nils)), (5, .d (.bool false))]) (objs := []) rfl (by simp) rfl (by repeat' first | exact trivial | refine ⟨?_, ?_⟩) ⟨rfl, trivial, rfl, trivial, trivial⟩) ?_
    refine aw_weak (weak_relax [1] (l' := [(4, .row 0 (([] : List Int).length) 0 (([] : List Int).length)), (5, .d (.bool false))]) (objs' := []) (.cons (.c (.ghost ⟨Nat.le_of_ble_eq_true rfl, Nat.le_of_ble_eq_true rfl⟩)) (.cons (.c (.refl _)) .nil)) .nil) ?_
    refine aw_ret ?_
    have hr := Option.some.inj h
    subst hr
    exact ret_objs (.inr rfl) [0] (objs' := []) (new := [.row 1 (([] : List Int).map eInti64)]) rfl (by simp) (by simp) rfl (by repeat' first | exact trivial | refine ⟨?_, ?_⟩) rfl rfl (by repeat' first | exact trivial | refine ⟨?_, ?_⟩) (fun _ => ⟨by simp [V.flat, V.flatA, V.flatC, D.flat], (flat_cons (flat_row eInti64_flat _) flat_nil)⟩) ⟨rfl, rfl, rfl⟩
  · have hc5 := not_f hc5
    have h := if_bt h hc5
    refine aw_skip ?_
    refine aw_seq ?_
    refine aw_region ?_
    refine awl_val hτ rfl rfl rfl ?_
    refine bnd_elim h fun x6 hx6 h => ?_
    refine awl_callP hτ false [0] rfl rfl rfl (enterOk func81 rfl rfl) rfl rfl (by simp) ⟨trivial, trivial, trivial⟩ (by repeat' first | exact trivial | refine ⟨?_, ?_⟩) (impl_Feeder_below_ok n f_ bus_ hx6) ?_
    rintro r0 o0 n0 ⟨rfl, rfl, rfl⟩ -
    refine awl_val hτ rfl rfl rfl ?_
    refine awl_val hτ rfl rfl rfl ?_
    refine awl_nil ?_
    refine aw_weak (weak_ofP [1] (l := [(4, .row 0 x6.length 0 x6.length), (5, .d (.bool true))]) (objs := [.row 1 (x6.map eInti64)]) rfl (by simp) rfl (by repeat' first | exact trivial | refine ⟨?_, ?_⟩) ⟨rfl, trivial, rfl, trivial, trivial⟩) ?_
    refine aw_ret ?_
    have hr := Option.some.inj h
    subst hr
    exact ret_objs (.inr rfl) [0] (objs' := []) (new := [.row 1 (x6.map eInti64)]) rfl (by simp) (by simp) rfl (by repeat' first | exact trivial | refine ⟨?_, ?_⟩) rfl rfl (by repeat' first | exact trivial | refine ⟨?_, ?_⟩) (fun _ => ⟨by simp [V.flat, V.flatA, V.flatC, D.flat], (flat_cons (flat_row eInti64_flat _) flat_nil)⟩) ⟨rfl, rfl, rfl⟩
theorem impl_BusesBelow_ok (n : Nat) (f_ : SFeeder) (bus_ : Int) {r : List Int × Bool} (h : m_impl_BusesBelow n f_ bus_ = some r) : ACall prog false 16 [.agg [.d (.cx .f32 f_.Source.A.re f_.Source.A.im), .d (.cx .f32 f_.Source.B.re f_.Source.B.im), .d (.cx .f32 f_.Source.C.re f_.Source.C.im), .d (.sl false (f_.Buses.map eSBus))], .d (.int .i64 bus_)] [] (fun v o new => v = .tup [.row 0 r.1.length 0 r.1.length, .d (.bool r.2)] ∧ o = [] ∧ new = [.row 1 (r.1.map eInti64)]) := impl_BusesBelow_ok_fr0 false n f_ bus_ h
theorem impl_BusesBelow_ok_fr (n : Nat) (f_ : SFeeder) (bus_ : Int) {r : List Int × Bool} (h : m_impl_BusesBelow n f_ bus_ = some r) : ACall prog true 16 [.agg [.d (.cx .f32 f_.Source.A.re f_.Source.A.im), .d (.cx .f32 f_.Source.B.re f_.Source.B.im), .d (.cx .f32 f_.Source.C.re f_.Source.C.im), .d (.sl false (f_.Buses.map eSBus))], .d (.int .i64 bus_)] [] (fun v o new => v = .tup [.row 0 r.1.length 0 r.1.length, .d (.bool r.2)] ∧ o = [] ∧ new = [.row 1 (r.1.map eInti64)]) := impl_BusesBelow_ok_fr0 true n f_ bus_ h

def m_laws_r8In_l1 (n : Nat) (list_ : List Int) (n_ : Int) : Nat → Int → Option Bool
  | 0, _ => none
  | m9 + 1, v6 =>
    if v6 < (list_.length : Int) then
      (getI list_ v6).bind fun x13 =>
      if x13 = n_ then
        some true
      else
        (m_laws_r8In_l1 n list_ n_ m9) (w64 (v6 + (1 : Int)))
    else
      some false
def m_laws_r8In (n : Nat) (list_ : List Int) (n_ : Int) : Option Bool :=
  m_laws_r8In_l1 n list_ n_ n (0 : Int)
theorem laws_r8In_ok_fr0 (fr : Bool) (n : Nat) (list_ : List Int) (n_ : Int) {r : Bool} (h : m_laws_r8In n list_ n_ = some r) : ACall prog fr 21 [.d (.sl false (list_.map eInti64)), .d (.int .i64 n_)] [] (fun v o new => v = .d (.bool r) ∧ o = [] ∧ new = []) := by
  refine acall_of_aw hτ func21 rfl (by simp) (by simp) ?_
  unfold m_laws_r8In at h
  refine aw_seq ?_
  refine aw_region ?_
  refine awl_val hτ rfl rfl rfl ?_
  refine awl_nil ?_
  refine aw_seq ?_
  refine aw_seq ?_
  refine aw_region ?_
  refine awl_val hτ rfl rfl rfl ?_
  refine awl_nil ?_
  refine aw_block ?_
  refine aw_loop (ι := Nat × Int) (fun (m9, v6) => St.of [(0, .d (.sl false (list_.map eInti64))), (1, .d (.int .i64 n_)), (5, .d (.int .i64 v6))] [] f21.ntmps 0) (fun (m9, v6) => m_laws_r8In_l1 n list_ n_ m9 v6 = some r) (fun x => x.1) (n, (0 : Int)) h (weak_ofP [] (l := [(0, .d (.sl false (list_.map eInti64))), (1, .d (.int .i64 n_)), (5, .d (.int .i64 (0 : Int)))]) (objs := []) rfl (by simp) rfl (by repeat' first | exact trivial | refine ⟨?_, ?_⟩) ⟨rfl, trivial, rfl, trivial, rfl, trivial, trivial⟩) ?_
  rintro ⟨m9, v6⟩ h
  replace h : m_laws_r8In_l1 n list_ n_ m9 v6 = some r := h
  rcases m9 with _ | m9
  · rw [m_laws_r8In_l1] at h; cases h
  rw [m_laws_r8In_l1] at h
  refine aw_seq ?_
  refine aw_seq ?_
  refine aw_region ?_
  refine awl_val hτ rfl rfl rfl ?_
  refine awl_val hτ rfl rfl rfl ?_
  refine awl_val hτ (v := .d (.int .i64 (list_.length : Int))) rfl rfl (Eq.trans rfl (or_len (f := eInti64) list_)) ?_
  refine awl_val hτ rfl rfl rfl ?_
  refine awl_nil ?_
  refine aw_cond rfl (fun hc11 => ?_) (fun hc11 => ?_)
  · have h := if_t h hc11
    refine aw_skip ?_
    refine aw_seq ?_
    refine aw_block ?_
    refine aw_seq ?_
    refine aw_region ?_
    refine awl_val hτ rfl rfl rfl ?_
    refine awl_val hτ rfl rfl rfl ?_
    refine bnd_elim h fun x13 hx13 h => ?_
    refine awl_elem hτ rfl rfl rfl (getI_some hx13).1 (map_getI hx13) rfl ?_
    refine awl_val hτ rfl rfl rfl ?_
    refine awl_val hτ rfl rfl rfl ?_
    refine awl_val hτ (v := .d (.bool (decide (x13 = n_)))) rfl rfl (or_ieq _ _) ?_
    refine awl_nil ?_
    refine aw_weak (weak_ofP [] (l := [(0, .d (.sl false (list_.map eInti64))), (1, .d (.int .i64 n_)), (5, .d (.int .i64 v6)), (17, .d (.bool (decide (x13 = n_))))]) (objs := []) rfl (by simp) rfl (by repeat' first | exact trivial | refine ⟨?_, ?_⟩) ⟨rfl, trivial, rfl, trivial, rfl, trivial, rfl, trivial, trivial⟩) ?_
    refine aw_cond rfl (fun hc14 => ?_) (fun hc14 => ?_)
    · have h := if_t h hc14
      refine aw_seq ?_
      refine aw_region ?_
      refine awl_val hτ rfl rfl rfl ?_
      refine awl_nil ?_
      refine aw_weak (weak_ofP [] (l := [(4, .d (.bool true))]) (objs := []) rfl (by simp) rfl (by repeat' first | exact trivial | refine ⟨?_, ?_⟩) ⟨rfl, trivial, trivial⟩) ?_
      refine aw_ret ?_
      have hr := Option.some.inj h
      subst hr
      exact ret_objs (.inr rfl) [] (objs' := []) (new := []) rfl (by simp) (by simp) rfl (by repeat' first | exact trivial | refine ⟨?_, ?_⟩) rfl rfl (by repeat' first | exact trivial | refine ⟨?_, ?_⟩) (fun _ => ⟨by simp [V.flat, V.flatA, V.flatC, D.flat], flat_nil⟩) ⟨rfl, rfl, rfl⟩
    · have h := if_f h hc14
      refine aw_skip ?_
      refine aw_region ?_
      refine awl_val hτ rfl rfl rfl ?_
      refine awl_val hτ rfl rfl rfl ?_
      refine awl_val hτ rfl rfl rfl ?_
      refine awl_nil ?_
      exact ⟨(m9, (w64 (v6 + (1 : Int)))), h, Nat.lt_succ_self m9, (weak_ofP [] (l := [(0, .d (.sl false (list_.map eInti64))), (1, .d (.int .i64 n_)), (5, .d (.int .i64 (w64 (v6 + (1 : Int)))))]) (objs := []) rfl (by simp) rfl (by repeat' first | exact trivial | refine ⟨?_, ?_⟩) ⟨rfl, trivial, rfl, trivial, rfl, trivial, trivial⟩)⟩
  · have h := if_f h hc11
    refine aw_exit ?_
    refine aw_seq ?_
    refine aw_region ?_
    refine awl_val hτ rfl rfl rfl ?_
    refine awl_nil ?_
    refine aw_weak (weak_ofP [] (l := [(4, .d (.bool false))]) (objs := []) rfl (by simp) rfl (by repeat' first | exact trivial | refine ⟨?_, ?_⟩) ⟨rfl, trivial, trivial⟩) ?_
    refine aw_ret ?_
    have hr := Option.some.inj h
    subst hr
    exact ret_objs (.inr rfl) [] (objs' := []) (new := []) rfl (by simp) (by simp) rfl (by repeat' first | exact trivial | refine ⟨?_, ?_⟩) rfl rfl (by repeat' first | exact trivial | refine ⟨?_, ?_⟩) (fun _ => ⟨by simp [V.flat, V.flatA, V.flatC, D.flat], flat_nil⟩) ⟨rfl, rfl, rfl⟩
theorem laws_r8In_ok (n : Nat) (list_ : List Int) (n_ : Int) {r : Bool} (h : m_laws_r8In n list_ n_ = some r) : ACall prog false 21 [.d (.sl false (list_.map eInti64)), .d (.int .i64 n_)] [] (fun v o new => v = .d (.bool r) ∧ o = [] ∧ new = []) := laws_r8In_ok_fr0 false n list_ n_ h
theorem laws_r8In_ok_fr (n : Nat) (list_ : List Int) (n_ : Int) {r : Bool} (h : m_laws_r8In n list_ n_ = some r) : ACall prog true 21 [.d (.sl false (list_.map eInti64)), .d (.int .i64 n_)] [] (fun v o new => v = .d (.bool r) ∧ o = [] ∧ new = []) := laws_r8In_ok_fr0 true n list_ n_ h

def m_slices_Clone (n : Nat) (s_ : List SBus) : Option (List SBus) :=
  grd (room (([] : List SBus).length + s_.length) 64) <|
  some (([] : List SBus) ++ s_)
theorem slices_Clone_ok_fr0 (fr : Bool) (n : Nat) (s_ : List SBus) {r : List SBus} (h : m_slices_Clone n s_ = some r) : ACall prog fr 146 [.d (.sl false (s_.map eSBus))] [] (fun v o new => v = .row 0 r.length 0 r.length ∧ o = [] ∧ new = [.row 8 (r.map eSBus)]) := by
  refine acall_of_aw hτ func146 rfl (by simp) (by simp) ?_
  unfold m_slices_Clone at h
  refine aw_seq ?_
  refine aw_region ?_
  refine awl_val hτ rfl rfl rfl ?_
  refine awl_nil ?_
  refine aw_seq ?_
  refine aw_seq ?_
  refine aw_region ?_
  refine awl_val hτ rfl rfl rfl ?_
  refine awl_xpick rfl rfl (x_nileq hτ rfl rfl rfl rfl rfl) fun q4 hq4 => ?_
  refine awl_nil ?_
  refine aw_cond rfl (fun hc5 => ?_) (fun hc5 => ?_)
  · have hl := List.map_eq_nil_iff.1 (hq4 (by simpa using hc5))
    subst hl
    replace h : (some ([] : List SBus)) = some r := by simpa [grd, room] using h
    refine aw_seq ?_
    refine aw_region ?_
    refine awl_val hτ rfl rfl rfl ?_
    refine awl_nil ?_
    refine aw_weak (weak_ofP [] (l := [(2, .d (.nils))]) (objs := []) rfl (by simp) rfl (by repeat' first | exact trivial | refine ⟨?_, ?_⟩) ⟨rfl, trivial, trivial⟩) ?_
    refine aw_weak (weak_relax [8] (l' := [(2, .row 0 (([] : List SBus).length) 0 (([] : List SBus).length))]) (objs' := []) (.cons (.c (.ghost ⟨Nat.le_of_ble_eq_true rfl, Nat.le_of_ble_eq_true rfl⟩)) .nil) .nil) ?_
    refine aw_ret ?_
    have hr := Option.some.inj h
    subst hr
    exact ret_objs (.inr rfl) [0] (objs' := []) (new := [.row 8 (([] : List SBus).map eSBus)]) rfl (by simp) (by simp) rfl (by repeat' first | exact trivial | refine ⟨?_, ?_⟩) rfl rfl (by repeat' first | exact trivial | refine ⟨?_, ?_⟩) (fun _ => ⟨by simp [V.flat, V.flatA, V.flatC, D.flat], (flat_cons (flat_row eSBus_flat _) flat_nil)⟩) ⟨rfl, rfl, rfl⟩
  · refine aw_skip ?_
    refine aw_seq ?_
    refine aw_region ?_
    refine awl_valH hτ rfl rfl rfl ?_
    refine awl_val hτ rfl rfl rfl ?_
    refine grd_elim h fun hg6 h => ?_
    refine awl_needH hτ rfl rfl (Eq.trans rfl (or_append (f := eSBus) ([] : List SBus) s_ rfl)) ⟨trivial, len_map _, rfl, rfl, (room_map (f := eSBus) hg6), by decide, (map_lens (f := eSBus) (fun _ => rfl) _)⟩ ?_
    refine awl_val hτ rfl rfl rfl ?_
    refine awl_nil ?_
    refine aw_weak (weak_ofP [0] (l := [(2, .row 0 ((([] : List SBus) ++ s_).length) 0 ((([] : List SBus) ++ s_).length))]) (objs := [.row 8 ((([] : List SBus) ++ s_).map eSBus)]) rfl (by simp) rfl (by repeat' first | exact trivial | refine ⟨?_, ?_⟩) ⟨rfl, trivial, trivial⟩) ?_
    refine aw_ret ?_
    have hr := Option.some.inj h
    subst hr
    exact ret_objs (.inr rfl) [0] (objs' := []) (new := [.row 8 ((([] : List SBus) ++ s_).map eSBus)]) rfl (by simp) (by simp) rfl (by repeat' first | exact trivial | refine ⟨?_, ?_⟩) rfl rfl (by repeat' first | exact trivial | refine ⟨?_, ?_⟩) (fun _ => ⟨by simp [V.flat, V.flatA, V.flatC, D.flat], (flat_cons (flat_row eSBus_flat _) flat_nil)⟩) ⟨rfl, rfl, rfl⟩
theorem slices_Clone_ok (n : Nat) (s_ : List SBus) {r : List SBus} (h : m_slices_Clone n s_ = some r) : ACall prog false 146 [.d (.sl false (s_.map eSBus))] [] (fun v o new => v = .row 0 r.length 0 r.length ∧ o = [] ∧ new = [.row 8 (r.map eSBus)]) := slices_Clone_ok_fr0 false n s_ h
theorem slices_Clone_ok_fr (n : Nat) (s_ : List SBus) {r : List SBus} (h : m_slices_Clone n s_ = some r) : ACall prog true 146 [.d (.sl false (s_.map eSBus))] [] (fun v o new => v = .row 0 r.length 0 r.length ∧ o = [] ∧ new = [.row 8 (r.map eSBus)]) := slices_Clone_ok_fr0 true n s_ h

def m_impl_cloneFeeder (n : Nat) (f_ : SFeeder) : Option SFeeder :=
  (m_slices_Clone n f_.Buses).bind fun x2 =>
  some (SFeeder.mk f_.Source x2)
theorem impl_cloneFeeder_ok_fr0 (fr : Bool) (n : Nat) (f_ : SFeeder) {r : SFeeder} (h : m_impl_cloneFeeder n f_ = some r) : ACall prog fr 88 [.agg [.d (.cx .f32 f_.Source.A.re f_.Source.A.im), .d (.cx .f32 f_.Source.B.re f_.Source.B.im), .d (.cx .f32 f_.Source.C.re f_.Source.C.im), .d (.sl false (f_.Buses.map eSBus))]] [] (fun v o new => v = .agg [.d (.cx .f32 r.Source.A.re r.Source.A.im), .d (.cx .f32 r.Source.B.re r.Source.B.im), .d (.cx .f32 r.Source.C.re r.Source.C.im), .row 0 r.Buses.length 0 r.Buses.length] ∧ o = [] ∧ new = [.row 8 (r.Buses.map eSBus)]) := by
  refine acall_of_aw hτ func88 rfl (by simp) (by simp) ?_
  unfold m_impl_cloneFeeder at h
  refine aw_seq ?_
  refine aw_region ?_
  refine awl_valH hτ rfl rfl rfl ?_
  refine awl_valH hτ rfl rfl rfl ?_
  refine awl_nil ?_
  refine aw_seq ?_
  refine any_start ?_
  refine any_val hτ [0] 0 rfl rfl rfl rfl rfl ?_
  refine any_val hτ [0] 1 rfl rfl rfl rfl rfl ?_
  refine any_val hτ [0] 2 rfl rfl rfl rfl rfl ?_
  refine any_val hτ [0] 3 rfl rfl rfl rfl rfl ?_
  refine bnd_elim h fun x2 hx2 h => ?_
  refine any_callP hτ false [] [0, 1] 4 rfl rfl rfl rfl (enterOk func146 rfl rfl) rfl rfl (by simp) ⟨trivial, trivial⟩ (by repeat' first | exact trivial | refine ⟨?_, ?_⟩) (slices_Clone_ok n f_.Buses hx2) ⟨rfl, rfl, trivial⟩ ?_
  refine any_val hτ [] 5 rfl rfl rfl rfl rfl ?_
  refine any_valHP hτ [0, 2] 6 rfl rfl rfl rfl ⟨rfl, rfl, trivial⟩ ?_
  refine any_done mixed (by kernel_rfl) ?_
  refine aw_weak (weak_ofP [1, 2] (l := [(2, .ptr 0 0)]) (objs := [.box [.d (.cx .f32 f_.Source.A.re f_.Source.A.im), .d (.cx .f32 f_.Source.B.re f_.Source.B.im), .d (.cx .f32 f_.Source.C.re f_.Source.C.im), .row 1 x2.length 0 x2.length], .row 8 (x2.map eSBus)]) rfl (by simp) rfl (by repeat' first | exact trivial | refine ⟨?_, ?_⟩) ⟨rfl, trivial, trivial⟩) ?_
  refine aw_ret ?_
  have hr := Option.some.inj h
  subst hr
  exact ret_objs (.inr rfl) [1] (objs' := []) (new := [.row 8 (x2.map eSBus)]) rfl (by simp) (by simp) rfl (by repeat' first | exact trivial | refine ⟨?_, ?_⟩) rfl rfl (by repeat' first | exact trivial | refine ⟨?_, ?_⟩) (fun _ => ⟨by simp [V.flat, V.flatA, V.flatC, D.flat], (flat_cons (flat_row eSBus_flat _) flat_nil)⟩) ⟨rfl, rfl, rfl⟩
theorem impl_cloneFeeder_ok (n : Nat) (f_ : SFeeder) {r : SFeeder} (h : m_impl_cloneFeeder n f_ = some r) : ACall prog false 88 [.agg [.d (.cx .f32 f_.Source.A.re f_.Source.A.im), .d (.cx .f32 f_.Source.B.re f_.Source.B.im), .d (.cx .f32 f_.Source.C.re f_.Source.C.im), .d (.sl false (f_.Buses.map eSBus))]] [] (fun v o new => v = .agg [.d (.cx .f32 r.Source.A.re r.Source.A.im), .d (.cx .f32 r.Source.B.re r.Source.B.im), .d (.cx .f32 r.Source.C.re r.Source.C.im), .row 0 r.Buses.length 0 r.Buses.length] ∧ o = [] ∧ new = [.row 8 (r.Buses.map eSBus)]) := impl_cloneFeeder_ok_fr0 false n f_ h
theorem impl_cloneFeeder_ok_fr (n : Nat) (f_ : SFeeder) {r : SFeeder} (h : m_impl_cloneFeeder n f_ = some r) : ACall prog true 88 [.agg [.d (.cx .f32 f_.Source.A.re f_.Source.A.im), .d (.cx .f32 f_.Source.B.re f_.Source.B.im), .d (.cx .f32 f_.Source.C.re f_.Source.C.im), .d (.sl false (f_.Buses.map eSBus))]] [] (fun v o new => v = .agg [.d (.cx .f32 r.Source.A.re r.Source.A.im), .d (.cx .f32 r.Source.B.re r.Source.B.im), .d (.cx .f32 r.Source.C.re r.Source.C.im), .row 0 r.Buses.length 0 r.Buses.length] ∧ o = [] ∧ new = [.row 8 (r.Buses.map eSBus)]) := impl_cloneFeeder_ok_fr0 true n f_ h

def m_impl_told (n : Nat) (f_ : SFeeder) : Option (SFeeder × Bool) :=
  (m_impl_ValidFeeder n f_).bind fun x3 =>
  if x3 = true then
    some (f_, true)
  else
    some ((SFeeder.mk (SPhases.mk (Cx.mk (0 : Nat) (0 : Nat)) (Cx.mk (0 : Nat) (0 : Nat)) (Cx.mk (0 : Nat) (0 : Nat))) ([] : List SBus)), false)
theorem impl_told_ok (n : Nat) (f_ : SFeeder) {r : SFeeder × Bool} (h : m_impl_told n f_ = some r) : ACall prog false 89 [.agg [.d (.cx .f32 f_.Source.A.re f_.Source.A.im), .d (.cx .f32 f_.Source.B.re f_.Source.B.im), .d (.cx .f32 f_.Source.C.re f_.Source.C.im), .d (.sl false (f_.Buses.map eSBus))]] [] (fun v o new => v = .tup [.agg [.d (.cx .f32 r.1.Source.A.re r.1.Source.A.im), .d (.cx .f32 r.1.Source.B.re r.1.Source.B.im), .d (.cx .f32 r.1.Source.C.re r.1.Source.C.im), .d (.sl false (r.1.Buses.map eSBus))], .d (.bool r.2)] ∧ o = [] ∧ new = []) := by
  refine acall_of_aw hτ func89 rfl (by simp) (by simp) ?_
  unfold m_impl_told at h
  refine aw_seq ?_
  refine aw_region ?_
  refine awl_valH hτ rfl rfl rfl ?_
  refine awl_valH hτ rfl rfl rfl ?_
  refine awl_val hτ rfl rfl rfl ?_
  refine awl_nil ?_
  refine aw_seq ?_
  refine aw_seq ?_
  refine aw_region ?_
  refine awl_val hτ rfl rfl rfl ?_
  refine bnd_elim h fun x3 hx3 h => ?_
  refine awl_callP hτ false [] rfl rfl rfl (enterOk func20 rfl rfl) rfl rfl (by simp) ⟨(by repeat' first | exact trivial | refine ⟨?_, ?_⟩), trivial⟩ (by repeat' first | exact trivial | refine ⟨?_, ?_⟩) (impl_ValidFeeder_ok n f_ hx3) ?_
  rintro r0 o0 n0 ⟨rfl, rfl, rfl⟩ -
  refine awl_val hτ rfl rfl rfl ?_
  refine awl_nil ?_
  refine aw_weak (weak_ofP [0, 1] (l := [(1, .ptr 0 0), (2, .ptr 1 0), (6, .d (.bool (!x3)))]) (objs := [.box [.d (.cx .f32 f_.Source.A.re f_.Source.A.im), .d (.cx .f32 f_.Source.B.re f_.Source.B.im), .d (.cx .f32 f_.Source.C.re f_.Source.C.im), .d (.sl false (f_.Buses.map eSBus))], .box [.d (.cx .f32 (0 : Nat) (0 : Nat)), .d (.cx .f32 (0 : Nat) (0 : Nat)), .d (.cx .f32 (0 : Nat) (0 : Nat)), .d (.nils)]]) rfl (by simp) rfl (by repeat' first | exact trivial | refine ⟨?_, ?_⟩) ⟨rfl, trivial, rfl, trivial, rfl, trivial, trivial⟩) ?_
  refine aw_cond rfl (fun hc4 => ?_) (fun hc4 => ?_)
  · have hc4 := not_t hc4
    have h := if_bf h hc4
    refine aw_seq ?_
    refine aw_region ?_
    refine awl_val hτ rfl rfl rfl ?_
    refine awl_valH hτ rfl rfl rfl ?_
    refine awl_val hτ rfl rfl rfl ?_
    refine awl_nil ?_
    refine aw_weak (weak_ofP [1] (l := [(2, .ptr 0 0), (3, .d (.bool false))]) (objs := [.box [.d (.cx .f32 (0 : Nat) (0 : Nat)), .d (.cx .f32 (0 : Nat) (0 : Nat)), .d (.cx .f32 (0 : Nat) (0 : Nat)), .d (.nils)]]) rfl (by simp) rfl (by repeat' first | exact trivial | refine ⟨?_, ?_⟩) ⟨rfl, trivial, rfl, trivial, trivial⟩) ?_
    refine aw_weak (weak_relax [] (l' := [(2, .ptr 0 0), (3, .d (.bool false))]) (objs' := [.box [.d (.cx .f32 (0 : Nat) (0 : Nat)), .d (.cx .f32 (0 : Nat) (0 : Nat)), .d (.cx .f32 (0 : Nat) (0 : Nat)), .d (.sl false (([] : List SBus).map eSBus))]]) (.cons (.c (.refl _)) (.cons (.c (.refl _)) .nil)) (.cons (.box (.cons (.refl _) (.cons (.refl _) (.cons (.refl _) (.cons (.d .nil) .nil))))) .nil)) ?_
    refine aw_ret ?_
    have hr := Option.some.inj h
    subst hr
    exact ret_objs (.inr rfl) [] (objs' := []) (new := []) rfl (by simp) (by simp) rfl (by repeat' first | exact trivial | refine ⟨?_, ?_⟩) rfl rfl (by repeat' first | exact trivial | refine ⟨?_, ?_⟩) (fun h => nomatch h) ⟨rfl, rfl, rfl⟩
  · have hc4 := not_f hc4
    have h := if_bt h hc4
    refine aw_skip ?_
    refine aw_seq ?_
    refine aw_region ?_
    refine awl_val hτ rfl rfl rfl ?_
    refine awl_valH hτ rfl rfl rfl ?_
    refine awl_val hτ rfl rfl rfl ?_
    refine awl_nil ?_
    refine aw_weak (weak_ofP [1] (l := [(2, .ptr 0 0), (3, .d (.bool true))]) (objs := [.box [.d (.cx .f32 f_.Source.A.re f_.Source.A.im), .d (.cx .f32 f_.Source.B.re f_.Source.B.im), .d (.cx .f32 f_.Source.C.re f_.Source.C.im), .d (.sl false (f_.Buses.map eSBus))]]) rfl (by simp) rfl (by repeat' first | exact trivial | refine ⟨?_, ?_⟩) ⟨rfl, trivial, rfl, trivial, trivial⟩) ?_
    refine aw_ret ?_
    have hr := Option.some.inj h
    subst hr
    exact ret_objs (.inr rfl) [] (objs' := []) (new := []) rfl (by simp) (by simp) rfl (by repeat' first | exact trivial | refine ⟨?_, ?_⟩) rfl rfl (by repeat' first | exact trivial | refine ⟨?_, ?_⟩) (fun h => nomatch h) ⟨rfl, rfl, rfl⟩

def m_impl_GraftFeeder_j2 (n : Nat) (x25 : SFeeder) (v40 : List SBus) : Option (SFeeder × Bool) :=
  (m_impl_told n (SFeeder.mk x25.Source v40)).bind fun x41 =>
  some (x41.1, x41.2)
def m_impl_GraftFeeder_j4 (n : Nat) (k58 : List SBus → Int → Option (SFeeder × Bool)) (v49 : Int) (v65 : List SBus) : Option (SFeeder × Bool) :=
  k58 v65 (w64 (v49 + (1 : Int)))
def m_impl_GraftFeeder_j5 (n : Nat) (k58 : List SBus → Int → Option (SFeeder × Bool)) (v48 : List SBus) (v49 : Int) (x67 : SBus) (v71 : Int) (v72 : Cx) (v73 : Cx) : Option (SFeeder × Bool) :=
  grd (room (v48.length + 1) 64) <|
  m_impl_GraftFeeder_j4 n k58 v49 (v48 ++ [(SBus.mk v71 v72 v73 x67.Kind x67.Load x67.Customers)])
def m_impl_GraftFeeder_l3 (n : Nat) (f_ : SFeeder) (at_ : Int) (part_ : SFeeder) (own_ : Cx) (shared_ : Cx) (x25 : SFeeder) : Nat → List SBus → Int → Option (SFeeder × Bool)
  | 0, _, _ => none
  | m57 + 1, v48, v49 =>
    if v49 < (part_.Buses.length : Int) then
      (getI part_.Buses v49).bind fun x67 =>
      if v49 = (0 : Int) then
        m_impl_GraftFeeder_j5 n (m_impl_GraftFeeder_l3 n f_ at_ part_ own_ shared_ x25 m57) v48 v49 x67 at_ own_ shared_
      else
        m_impl_GraftFeeder_j5 n (m_impl_GraftFeeder_l3 n f_ at_ part_ own_ shared_ x25 m57) v48 v49 x67 (w64 (x67.Parent + (f_.Buses.length : Int))) x67.Own x67.Shared
    else
      m_impl_GraftFeeder_j2 n x25 v48
def m_impl_GraftFeeder_j1 (n : Nat) (f_ : SFeeder) (at_ : Int) (part_ : SFeeder) (own_ : Cx) (shared_ : Cx) : Option (SFeeder × Bool) :=
  (m_impl_cloneFeeder n f_).bind fun x25 =>
  m_impl_GraftFeeder_l3 n f_ at_ part_ own_ shared_ x25 n x25.Buses (0 : Int)
def m_impl_GraftFeeder_j6 (n : Nat) (f_ : SFeeder) (at_ : Int) (part_ : SFeeder) (own_ : Cx) (shared_ : Cx) (v82 : Bool) : Option (SFeeder × Bool) :=
  if v82 = true then
    some ((SFeeder.mk (SPhases.mk (Cx.mk (0 : Nat) (0 : Nat)) (Cx.mk (0 : Nat) (0 : Nat)) (Cx.mk (0 : Nat) (0 : Nat))) ([] : List SBus)), false)
  else
    m_impl_GraftFeeder_j1 n f_ at_ part_ own_ shared_
def m_impl_GraftFeeder (n : Nat) (f_ : SFeeder) (at_ : Int) (part_ : SFeeder) (own_ : Cx) (shared_ : Cx) : Option (SFeeder × Bool) :=
  (m_impl_Feeder_has n f_ at_).bind fun x85 =>
  if x85 = true then
    (m_impl_ValidFeeder n part_).bind fun x87 =>
    m_impl_GraftFeeder_j6 n f_ at_ part_ own_ shared_ (!x87)
  else
    m_impl_GraftFeeder_j6 n f_ at_ part_ own_ shared_ true
theorem impl_GraftFeeder_ok (n : Nat) (f_ : SFeeder) (at_ : Int) (part_ : SFeeder) (own_ : Cx) (shared_ : Cx) {r : SFeeder × Bool} (h : m_impl_GraftFeeder n f_ at_ part_ own_ shared_ = some r) : ACall prog false 24 [.agg [.d (.cx .f32 f_.Source.A.re f_.Source.A.im), .d (.cx .f32 f_.Source.B.re f_.Source.B.im), .d (.cx .f32 f_.Source.C.re f_.Source.C.im), .d (.sl false (f_.Buses.map eSBus))], .d (.int .i64 at_), .agg [.d (.cx .f32 part_.Source.A.re part_.Source.A.im), .d (.cx .f32 part_.Source.B.re part_.Source.B.im), .d (.cx .f32 part_.Source.C.re part_.Source.C.im), .d (.sl false (part_.Buses.map eSBus))], .d (.cx .f32 own_.re own_.im), .d (.cx .f32 shared_.re shared_.im)] [] (fun v o new => v = .tup [.agg [.d (.cx .f32 r.1.Source.A.re r.1.Source.A.im), .d (.cx .f32 r.1.Source.B.re r.1.Source.B.im), .d (.cx .f32 r.1.Source.C.re r.1.Source.C.im), .d (.sl false (r.1.Buses.map eSBus))], .d (.bool r.2)] ∧ o = [] ∧ new = []) := by
  refine acall_of_aw hτ func24 rfl (by simp) (by simp) ?_
  unfold m_impl_GraftFeeder at h
  refine aw_seq ?_
  refine aw_region ?_
  refine awl_valH hτ rfl rfl rfl ?_
  refine awl_valH hτ rfl rfl rfl ?_
  refine awl_valH hτ rfl rfl rfl ?_
  refine awl_val hτ rfl rfl rfl ?_
  refine awl_nil ?_
  refine aw_hk1 (ι := Unit) (fun _ => St.of [(1, .d (.int .i64 at_)), (3, .d (.cx .f32 own_.re own_.im)), (4, .d (.cx .f32 shared_.re shared_.im)), (5, .ptr 0 0), (7, .ptr 1 0), (10, .ptr 2 0)] [.box [.d (.cx .f32 f_.Source.A.re f_.Source.A.im), .d (.cx .f32 f_.Source.B.re f_.Source.B.im), .d (.cx .f32 f_.Source.C.re f_.Source.C.im), .d (.sl false (f_.Buses.map eSBus))], .box [.d (.cx .f32 part_.Source.A.re part_.Source.A.im), .d (.cx .f32 part_.Source.B.re part_.Source.B.im), .d (.cx .f32 part_.Source.C.re part_.Source.C.im), .d (.sl false (part_.Buses.map eSBus))], .box [.d (.cx .f32 (0 : Nat) (0 : Nat)), .d (.cx .f32 (0 : Nat) (0 : Nat)), .d (.cx .f32 (0 : Nat) (0 : Nat)), .d (.nils)]] f24.ntmps 0) (fun _ => m_impl_GraftFeeder_j1 n f_ at_ part_ own_ shared_ = some r) ?_ (fun hk77 => ?_)
  · rintro ⟨⟩ h
    replace h : m_impl_GraftFeeder_j1 n f_ at_ part_ own_ shared_ = some r := h
    unfold m_impl_GraftFeeder_j1 at h
    refine aw_seq ?_
    refine aw_region ?_
    refine awl_val hτ rfl rfl rfl ?_
    refine bnd_elim h fun x25 hx25 h => ?_
    refine awl_callP hτ false [] rfl rfl rfl (enterOk func88 rfl rfl) rfl rfl (by simp) ⟨(by repeat' first | exact trivial | refine ⟨?_, ?_⟩), trivial⟩ (by repeat' first | exact trivial | refine ⟨?_, ?_⟩) (impl_cloneFeeder_ok n f_ hx25) ?_
    rintro r0 o0 n0 ⟨rfl, rfl, rfl⟩ -
    refine awl_valH hτ rfl rfl rfl ?_
    refine awl_valH hτ rfl rfl rfl ?_
    refine awl_nil ?_
    refine aw_hk1 (ι := List SBus) (fun v40 => St.of [(10, .ptr 0 0), (12, .ptr 1 0)] [.box [.d (.cx .f32 (0 : Nat) (0 : Nat)), .d (.cx .f32 (0 : Nat) (0 : Nat)), .d (.cx .f32 (0 : Nat) (0 : Nat)), .d (.nils)], .box [.d (.cx .f32 x25.Source.A.re x25.Source.A.im), .d (.cx .f32 x25.Source.B.re x25.Source.B.im), .d (.cx .f32 x25.Source.C.re x25.Source.C.im), .row 2 v40.length 0 v40.length], .row 8 (v40.map eSBus)] f24.ntmps 0) (fun v40 => m_impl_GraftFeeder_j2 n x25 v40 = some r) ?_ (fun hk42 => ?_)
    · rintro v40 h
      replace h : m_impl_GraftFeeder_j2 n x25 v40 = some r := h
      unfold m_impl_GraftFeeder_j2 at h
      refine aw_seq ?_
      refine aw_region ?_
      refine awl_val hτ rfl rfl rfl ?_
      refine awl_weak (weak_ofP [0] (l := [(10, .ptr 0 0), (56, .agg [.d (.cx .f32 x25.Source.A.re x25.Source.A.im), .d (.cx .f32 x25.Source.B.re x25.Source.B.im), .d (.cx .f32 x25.Source.C.re x25.Source.C.im), .d (.sl false (v40.map eSBus))])]) (objs := [.box [.d (.cx .f32 (0 : Nat) (0 : Nat)), .d (.cx .f32 (0 : Nat) (0 : Nat)), .d (.cx .f32 (0 : Nat) (0 : Nat)), .d (.nils)]]) rfl (by simp) rfl (by repeat' first | exact trivial | refine ⟨?_, ?_⟩) ⟨rfl, trivial, (exV_agg (mapO_cons rfl (mapO_cons rfl (mapO_cons rfl (mapO_cons (exC_view (f := eSBus) v40 rfl rfl rfl) mapO_nil))))), ⟨trivial, trivial, trivial, (exP_view (f := eSBus) v40 rfl rfl rfl)⟩, trivial⟩) ?_
      refine bnd_elim h fun x41 hx41 h => ?_
      refine awl_callP hτ false [] rfl rfl rfl (enterOk func89 rfl rfl) rfl rfl (by simp) ⟨(by repeat' first | exact trivial | refine ⟨?_, ?_⟩), trivial⟩ (by repeat' first | exact trivial | refine ⟨?_, ?_⟩) (impl_told_ok n (SFeeder.mk x25.Source v40) hx41) ?_
      rintro r0 o0 n0 ⟨rfl, rfl, rfl⟩ -
      refine awl_val hτ rfl rfl rfl ?_
      refine awl_val hτ rfl rfl rfl ?_
      refine awl_valH hτ rfl rfl rfl ?_
      refine awl_val hτ rfl rfl rfl ?_
      refine awl_nil ?_
      refine aw_weak (weak_ofP [0] (l := [(10, .ptr 0 0), (11, .d (.bool x41.2))]) (objs := [.box [.d (.cx .f32 x41.1.Source.A.re x41.1.Source.A.im), .d (.cx .f32 x41.1.Source.B.re x41.1.Source.B.im), .d (.cx .f32 x41.1.Source.C.re x41.1.Source.C.im), .d (.sl false (x41.1.Buses.map eSBus))]]) rfl (by simp) rfl (by repeat' first | exact trivial | refine ⟨?_, ?_⟩) ⟨rfl, trivial, rfl, trivial, trivial⟩) ?_
      refine aw_ret ?_
      have hr := Option.some.inj h
      subst hr
      exact ret_objs (.inr rfl) [] (objs' := []) (new := []) rfl (by simp) (by simp) rfl (by repeat' first | exact trivial | refine ⟨?_, ?_⟩) rfl rfl (by repeat' first | exact trivial | refine ⟨?_, ?_⟩) (fun h => nomatch h) ⟨rfl, rfl, rfl⟩
    · refine aw_seq ?_
      refine aw_seq ?_
      refine aw_region ?_
      refine awl_val hτ rfl rfl rfl ?_
      refine awl_val hτ rfl rfl rfl ?_
      refine awl_val hτ (v := .d (.int .i64 (part_.Buses.length : Int))) rfl rfl (Eq.trans rfl (or_len (f := eSBus) part_.Buses)) ?_
      refine awl_val hτ rfl rfl rfl ?_
      refine awl_nil ?_
      refine aw_block ?_
      refine aw_loop (ι := Nat × List SBus × Int) (fun (m57, v48, v49) => St.of [(1, .d (.int .i64 at_)), (3, .d (.cx .f32 own_.re own_.im)), (4, .d (.cx .f32 shared_.re shared_.im)), (5, .ptr 0 0), (10, .ptr 1 0), (12, .ptr 2 0), (27, .d (.sl false (part_.Buses.map eSBus))), (28, .d (.int .i64 (part_.Buses.length : Int))), (29, .d (.int .i64 v49))] [.box [.d (.cx .f32 f_.Source.A.re f_.Source.A.im), .d (.cx .f32 f_.Source.B.re f_.Source.B.im), .d (.cx .f32 f_.Source.C.re f_.Source.C.im), .d (.sl false (f_.Buses.map eSBus))], .box [.d (.cx .f32 (0 : Nat) (0 : Nat)), .d (.cx .f32 (0 : Nat) (0 : Nat)), .d (.cx .f32 (0 : Nat) (0 : Nat)), .d (.nils)], .box [.d (.cx .f32 x25.Source.A.re x25.Source.A.im), .d (.cx .f32 x25.Source.B.re x25.Source.B.im), .d (.cx .f32 x25.Source.C.re x25.Source.C.im), .row 3 v48.length 0 v48.length], .row 8 (v48.map eSBus)] f24.ntmps 0) (fun (m57, v48, v49) => m_impl_GraftFeeder_l3 n f_ at_ part_ own_ shared_ x25 m57 v48 v49 = some r) (fun x => x.1) (n, x25.Buses, (0 : Int)) h (weak_ofP [0, 2, 4, 3] (l := [(1, .d (.int .i64 at_)), (3, .d (.cx .f32 own_.re own_.im)), (4, .d (.cx .f32 shared_.re shared_.im)), (5, .ptr 0 0), (10, .ptr 1 0), (12, .ptr 2 0), (27, .d (.sl false (part_.Buses.map eSBus))), (28, .d (.int .i64 (part_.Buses.length : Int))), (29, .d (.int .i64 (0 : Int)))]) (objs := [.box [.d (.cx .f32 f_.Source.A.re f_.Source.A.im), .d (.cx .f32 f_.Source.B.re f_.Source.B.im), .d (.cx .f32 f_.Source.C.re f_.Source.C.im), .d (.sl false (f_.Buses.map eSBus))], .box [.d (.cx .f32 (0 : Nat) (0 : Nat)), .d (.cx .f32 (0 : Nat) (0 : Nat)), .d (.cx .f32 (0 : Nat) (0 : Nat)), .d (.nils)], .box [.d (.cx .f32 x25.Source.A.re x25.Source.A.im), .d (.cx .f32 x25.Source.B.re x25.Source.B.im), .d (.cx .f32 x25.Source.C.re x25.Source.C.im), .row 3 x25.Buses.length 0 x25.Buses.length], .row 8 (x25.Buses.map eSBus)]) rfl (by simp) rfl (by repeat' first | exact trivial | refine ⟨?_, ?_⟩) ⟨rfl, trivial, rfl, trivial, rfl, trivial, rfl, trivial, rfl, trivial, rfl, trivial, rfl, trivial, rfl, trivial, rfl, trivial, trivial⟩) ?_
      rintro ⟨m57, v48, v49⟩ h
      replace h : m_impl_GraftFeeder_l3 n f_ at_ part_ own_ shared_ x25 m57 v48 v49 = some r := h
      rcases m57 with _ | m57
      · rw [m_impl_GraftFeeder_l3] at h; cases h
      rw [m_impl_GraftFeeder_l3] at h
      refine aw_seq ?_
      refine aw_region ?_
      refine awl_val hτ rfl rfl rfl ?_
      refine awl_nil ?_
      refine aw_seq ?_
      refine aw_cond rfl (fun hc59 => ?_) (fun hc59 => ?_)
      · have h := if_t h hc59
        refine aw_skip ?_
        refine aw_hk1 (ι := List SBus) (fun v65 => St.of [(1, .d (.int .i64 at_)), (3, .d (.cx .f32 own_.re own_.im)), (4, .d (.cx .f32 shared_.re shared_.im)), (5, .ptr 0 0), (10, .ptr 1 0), (12, .ptr 2 0), (27, .d (.sl false (part_.Buses.map eSBus))), (28, .d (.int .i64 (part_.Buses.length : Int))), (29, .d (.int .i64 v49))] [.box [.d (.cx .f32 f_.Source.A.re f_.Source.A.im), .d (.cx .f32 f_.Source.B.re f_.Source.B.im), .d (.cx .f32 f_.Source.C.re f_.Source.C.im), .d (.sl false (f_.Buses.map eSBus))], .box [.d (.cx .f32 (0 : Nat) (0 : Nat)), .d (.cx .f32 (0 : Nat) (0 : Nat)), .d (.cx .f32 (0 : Nat) (0 : Nat)), .d (.nils)], .box [.d (.cx .f32 x25.Source.A.re x25.Source.A.im), .d (.cx .f32 x25.Source.B.re x25.Source.B.im), .d (.cx .f32 x25.Source.C.re x25.Source.C.im), .row 3 v65.length 0 v65.length], .row 8 (v65.map eSBus)] f24.ntmps 0) (fun v65 => m_impl_GraftFeeder_j4 n (m_impl_GraftFeeder_l3 n f_ at_ part_ own_ shared_ x25 m57) v49 v65 = some r) ?_ (fun hk66 => ?_)
        · rintro v65 h
          replace h : m_impl_GraftFeeder_j4 n (m_impl_GraftFeeder_l3 n f_ at_ part_ own_ shared_ x25 m57) v49 v65 = some r := h
          unfold m_impl_GraftFeeder_j4 at h
          refine aw_region ?_
          refine awl_val hτ rfl rfl rfl ?_
          refine awl_val hτ rfl rfl rfl ?_
          refine awl_nil ?_
          exact ⟨(m57, v65, (w64 (v49 + (1 : Int)))), h, Nat.lt_succ_self m57, (weak_ofP [0, 1, 2, 3] (l := [(1, .d (.int .i64 at_)), (3, .d (.cx .f32 own_.re own_.im)), (4, .d (.cx .f32 shared_.re shared_.im)), (5, .ptr 0 0), (10, .ptr 1 0), (12, .ptr 2 0), (27, .d (.sl false (part_.Buses.map eSBus))), (28, .d (.int .i64 (part_.Buses.length : Int))), (29, .d (.int .i64 (w64 (v49 + (1 : Int)))))]) (objs := [.box [.d (.cx .f32 f_.Source.A.re f_.Source.A.im), .d (.cx .f32 f_.Source.B.re f_.Source.B.im), .d (.cx .f32 f_.Source.C.re f_.Source.C.im), .d (.sl false (f_.Buses.map eSBus))], .box [.d (.cx .f32 (0 : Nat) (0 : Nat)), .d (.cx .f32 (0 : Nat) (0 : Nat)), .d (.cx .f32 (0 : Nat) (0 : Nat)), .d (.nils)], .box [.d (.cx .f32 x25.Source.A.re x25.Source.A.im), .d (.cx .f32 x25.Source.B.re x25.Source.B.im), .d (.cx .f32 x25.Source.C.re x25.Source.C.im), .row 3 v65.length 0 v65.length], .row 8 (v65.map eSBus)]) rfl (by simp) rfl (by repeat' first | exact trivial | refine ⟨?_, ?_⟩) ⟨rfl, trivial, rfl, trivial, rfl, trivial, rfl, trivial, rfl, trivial, rfl, trivial, rfl, trivial, rfl, trivial, rfl, trivial, trivial⟩)⟩
        · refine aw_seq ?_
          refine aw_block ?_
          refine aw_seq ?_
          refine aw_region ?_
          refine awl_val hτ rfl rfl rfl ?_
          refine bnd_elim h fun x67 hx67 h => ?_
          refine awl_elem hτ rfl rfl rfl (getI_some hx67).1 (map_getI hx67) rfl ?_
          refine awl_val hτ rfl rfl rfl ?_
          refine awl_valH hτ rfl rfl rfl ?_
          refine awl_val hτ rfl rfl rfl ?_
          refine awl_valH hτ rfl rfl rfl ?_
          refine awl_nil ?_
          refine aw_hk1 (ι := Int × Cx × Cx) (fun (v71, v72, v73) => St.of [(1, .d (.int .i64 at_)), (3, .d (.cx .f32 own_.re own_.im)), (4, .d (.cx .f32 shared_.re shared_.im)), (5, .ptr 0 0), (10, .ptr 1 0), (12, .ptr 2 0), (14, .ptr 4 0), (27, .d (.sl false (part_.Buses.map eSBus))), (28, .d (.int .i64 (part_.Buses.length : Int))), (29, .d (.int .i64 v49))] [.box [.d (.cx .f32 f_.Source.A.re f_.Source.A.im), .d (.cx .f32 f_.Source.B.re f_.Source.B.im), .d (.cx .f32 f_.Source.C.re f_.Source.C.im), .d (.sl false (f_.Buses.map eSBus))], .box [.d (.cx .f32 (0 : Nat) (0 : Nat)), .d (.cx .f32 (0 : Nat) (0 : Nat)), .d (.cx .f32 (0 : Nat) (0 : Nat)), .d (.nils)], .box [.d (.cx .f32 x25.Source.A.re x25.Source.A.im), .d (.cx .f32 x25.Source.B.re x25.Source.B.im), .d (.cx .f32 x25.Source.C.re x25.Source.C.im), .row 3 v48.length 0 v48.length], .row 8 (v48.map eSBus), .box [.d (.int .i64 v71), .d (.cx .f32 v72.re v72.im), .d (.cx .f32 v73.re v73.im), .d (.int .i64 x67.Kind), .d (.cx .f32 x67.Load.A.re x67.Load.A.im), .d (.cx .f32 x67.Load.B.re x67.Load.B.im), .d (.cx .f32 x67.Load.C.re x67.Load.C.im), .d (.int .i64 x67.Customers)]] f24.ntmps 0) (fun (v71, v72, v73) => m_impl_GraftFeeder_j5 n (m_impl_GraftFeeder_l3 n f_ at_ part_ own_ shared_ x25 m57) v48 v49 x67 v71 v72 v73 = some r) ?_ (fun hk75 => ?_)
          · rintro ⟨v71, v72, v73⟩ h
            replace h : m_impl_GraftFeeder_j5 n (m_impl_GraftFeeder_l3 n f_ at_ part_ own_ shared_ x25 m57) v48 v49 x67 v71 v72 v73 = some r := h
            unfold m_impl_GraftFeeder_j5 at h
            refine aw_region ?_
            refine awl_val hτ rfl rfl rfl ?_
            refine awl_val hτ rfl rfl rfl ?_
            refine awl_val hτ rfl rfl rfl ?_
            refine awl_valH hτ rfl rfl rfl ?_
            refine grd_elim h fun hg74 h => ?_
            refine awl_needH hτ rfl rfl (Eq.trans rfl (or_append (f := eSBus) v48 [(SBus.mk v71 v72 v73 x67.Kind x67.Load x67.Customers)] rfl)) ⟨⟨rfl, Nat.le_of_ble_eq_true rfl⟩, len_map _, rfl, rfl, hg74, by decide, (all1 rfl)⟩ ?_
            refine awl_val hτ rfl rfl rfl ?_
            refine awl_valH hτ rfl rfl rfl ?_
            refine awl_nil ?_
            refine aw_weak (weak_ofP [0, 1, 2, 3] (l := [(1, .d (.int .i64 at_)), (3, .d (.cx .f32 own_.re own_.im)), (4, .d (.cx .f32 shared_.re shared_.im)), (5, .ptr 0 0), (10, .ptr 1 0), (12, .ptr 2 0), (27, .d (.sl false (part_.Buses.map eSBus))), (28, .d (.int .i64 (part_.Buses.length : Int))), (29, .d (.int .i64 v49))]) (objs := [.box [.d (.cx .f32 f_.Source.A.re f_.Source.A.im), .d (.cx .f32 f_.Source.B.re f_.Source.B.im), .d (.cx .f32 f_.Source.C.re f_.Source.C.im), .d (.sl false (f_.Buses.map eSBus))], .box [.d (.cx .f32 (0 : Nat) (0 : Nat)), .d (.cx .f32 (0 : Nat) (0 : Nat)), .d (.cx .f32 (0 : Nat) (0 : Nat)), .d (.nils)], .box [.d (.cx .f32 x25.Source.A.re x25.Source.A.im), .d (.cx .f32 x25.Source.B.re x25.Source.B.im), .d (.cx .f32 x25.Source.C.re x25.Source.C.im), .row 3 ((v48 ++ [(SBus.mk v71 v72 v73 x67.Kind x67.Load x67.Customers)]).length) 0 ((v48 ++ [(SBus.mk v71 v72 v73 x67.Kind x67.Load x67.Customers)]).length)], .row 8 ((v48 ++ [(SBus.mk v71 v72 v73 x67.Kind x67.Load x67.Customers)]).map eSBus)]) rfl (by simp) rfl (by repeat' first | exact trivial | refine ⟨?_, ?_⟩) ⟨rfl, trivial, rfl, trivial, rfl, trivial, rfl, trivial, rfl, trivial, rfl, trivial, rfl, trivial, rfl, trivial, rfl, trivial, trivial⟩) ?_
            exact hk66 (v48 ++ [(SBus.mk v71 v72 v73 x67.Kind x67.Load x67.Customers)]) h
          · refine aw_seq ?_
            refine aw_seq ?_
            refine aw_weak (weak_ofP [0, 1, 2, 3, 4] (l := [(1, .d (.int .i64 at_)), (3, .d (.cx .f32 own_.re own_.im)), (4, .d (.cx .f32 shared_.re shared_.im)), (5, .ptr 0 0), (10, .ptr 1 0), (12, .ptr 2 0), (13, .d (.int .i64 v49)), (14, .ptr 4 0), (27, .d (.sl false (part_.Buses.map eSBus))), (28, .d (.int .i64 (part_.Buses.length : Int))), (29, .d (.int .i64 v49))]) (objs := [.box [.d (.cx .f32 f_.Source.A.re f_.Source.A.im), .d (.cx .f32 f_.Source.B.re f_.Source.B.im), .d (.cx .f32 f_.Source.C.re f_.Source.C.im), .d (.sl false (f_.Buses.map eSBus))], .box [.d (.cx .f32 (0 : Nat) (0 : Nat)), .d (.cx .f32 (0 : Nat) (0 : Nat)), .d (.cx .f32 (0 : Nat) (0 : Nat)), .d (.nils)], .box [.d (.cx .f32 x25.Source.A.re x25.Source.A.im), .d (.cx .f32 x25.Source.B.re x25.Source.B.im), .d (.cx .f32 x25.Source.C.re x25.Source.C.im), .row 3 v48.length 0 v48.length], .row 8 (v48.map eSBus), .box [.d (.int .i64 x67.Parent), .d (.cx .f32 x67.Own.re x67.Own.im), .d (.cx .f32 x67.Shared.re x67.Shared.im), .d (.int .i64 x67.Kind), .d (.cx .f32 x67.Load.A.re x67.Load.A.im), .d (.cx .f32 x67.Load.B.re x67.Load.B.im), .d (.cx .f32 x67.Load.C.re x67.Load.C.im), .d (.int .i64 x67.Customers)]]) rfl (by simp) rfl (by repeat' first | exact trivial | refine ⟨?_, ?_⟩) ⟨rfl, trivial, rfl, trivial, rfl, trivial, rfl, trivial, rfl, trivial, rfl, trivial, rfl, trivial, rfl, trivial, rfl, trivial, rfl, trivial, rfl, trivial, trivial⟩) ?_
            refine aw_region ?_
            refine awl_val hτ rfl rfl rfl ?_
            refine awl_val hτ rfl rfl rfl ?_
            refine awl_val hτ rfl rfl rfl ?_
            refine awl_val hτ rfl rfl rfl ?_
            refine awl_val hτ (v := .d (.int .i64 (f_.Buses.length : Int))) rfl rfl (Eq.trans rfl (or_len (f := eSBus) f_.Buses)) ?_
            refine awl_val hτ rfl rfl rfl ?_
            refine awl_val hτ rfl rfl rfl ?_
            refine awl_valH hτ rfl rfl rfl ?_
            refine awl_nil ?_
            refine aw_seq ?_
            refine aw_weak (weak_ofP [0, 1, 2, 3, 4] (l := [(1, .d (.int .i64 at_)), (3, .d (.cx .f32 own_.re own_.im)), (4, .d (.cx .f32 shared_.re shared_.im)), (5, .ptr 0 0), (10, .ptr 1 0), (12, .ptr 2 0), (13, .d (.int .i64 v49)), (14, .ptr 4 0), (27, .d (.sl false (part_.Buses.map eSBus))), (28, .d (.int .i64 (part_.Buses.length : Int))), (29, .d (.int .i64 v49))]) (objs := [.box [.d (.cx .f32 f_.Source.A.re f_.Source.A.im), .d (.cx .f32 f_.Source.B.re f_.Source.B.im), .d (.cx .f32 f_.Source.C.re f_.Source.C.im), .d (.sl false (f_.Buses.map eSBus))], .box [.d (.cx .f32 (0 : Nat) (0 : Nat)), .d (.cx .f32 (0 : Nat) (0 : Nat)), .d (.cx .f32 (0 : Nat) (0 : Nat)), .d (.nils)], .box [.d (.cx .f32 x25.Source.A.re x25.Source.A.im), .d (.cx .f32 x25.Source.B.re x25.Source.B.im), .d (.cx .f32 x25.Source.C.re x25.Source.C.im), .row 3 v48.length 0 v48.length], .row 8 (v48.map eSBus), .box [.d (.int .i64 (w64 (x67.Parent + (f_.Buses.length : Int)))), .d (.cx .f32 x67.Own.re x67.Own.im), .d (.cx .f32 x67.Shared.re x67.Shared.im), .d (.int .i64 x67.Kind), .d (.cx .f32 x67.Load.A.re x67.Load.A.im), .d (.cx .f32 x67.Load.B.re x67.Load.B.im), .d (.cx .f32 x67.Load.C.re x67.Load.C.im), .d (.int .i64 x67.Customers)]]) rfl (by simp) rfl (by repeat' first | exact trivial | refine ⟨?_, ?_⟩) ⟨rfl, trivial, rfl, trivial, rfl, trivial, rfl, trivial, rfl, trivial, rfl, trivial, rfl, trivial, rfl, trivial, rfl, trivial, rfl, trivial, rfl, trivial, trivial⟩) ?_
            refine aw_region ?_
            refine awl_val hτ rfl rfl rfl ?_
            refine awl_val hτ (v := .d (.bool (decide (v49 = (0 : Int))))) rfl rfl (or_ieq _ _) ?_
            refine awl_nil ?_
            refine aw_cond rfl (fun hc76 => ?_) (fun hc76 => ?_)
            · have h := if_t h hc76
              refine aw_region ?_
              refine awl_val hτ rfl rfl rfl ?_
              refine awl_val hτ rfl rfl rfl ?_
              refine awl_val hτ rfl rfl rfl ?_
              refine awl_val hτ rfl rfl rfl ?_
              refine awl_valH hτ rfl rfl rfl ?_
              refine awl_val hτ rfl rfl rfl ?_
              refine awl_valH hτ rfl rfl rfl ?_
              refine awl_val hτ rfl rfl rfl ?_
              refine awl_valH hτ rfl rfl rfl ?_
              refine awl_nil ?_
              refine aw_weak (weak_ofP [0, 1, 2, 3, 4] (l := [(1, .d (.int .i64 at_)), (3, .d (.cx .f32 own_.re own_.im)), (4, .d (.cx .f32 shared_.re shared_.im)), (5, .ptr 0 0), (10, .ptr 1 0), (12, .ptr 2 0), (14, .ptr 4 0), (27, .d (.sl false (part_.Buses.map eSBus))), (28, .d (.int .i64 (part_.Buses.length : Int))), (29, .d (.int .i64 v49))]) (objs := [.box [.d (.cx .f32 f_.Source.A.re f_.Source.A.im), .d (.cx .f32 f_.Source.B.re f_.Source.B.im), .d (.cx .f32 f_.Source.C.re f_.Source.C.im), .d (.sl false (f_.Buses.map eSBus))], .box [.d (.cx .f32 (0 : Nat) (0 : Nat)), .d (.cx .f32 (0 : Nat) (0 : Nat)), .d (.cx .f32 (0 : Nat) (0 : Nat)), .d (.nils)], .box [.d (.cx .f32 x25.Source.A.re x25.Source.A.im), .d (.cx .f32 x25.Source.B.re x25.Source.B.im), .d (.cx .f32 x25.Source.C.re x25.Source.C.im), .row 3 v48.length 0 v48.length], .row 8 (v48.map eSBus), .box [.d (.int .i64 at_), .d (.cx .f32 own_.re own_.im), .d (.cx .f32 shared_.re shared_.im), .d (.int .i64 x67.Kind), .d (.cx .f32 x67.Load.A.re x67.Load.A.im), .d (.cx .f32 x67.Load.B.re x67.Load.B.im), .d (.cx .f32 x67.Load.C.re x67.Load.C.im), .d (.int .i64 x67.Customers)]]) rfl (by simp) rfl (by repeat' first | exact trivial | refine ⟨?_, ?_⟩) ⟨rfl, trivial, rfl, trivial, rfl, trivial, rfl, trivial, rfl, trivial, rfl, trivial, rfl, trivial, rfl, trivial, rfl, trivial, rfl, trivial, trivial⟩) ?_
              exact hk75 (at_, own_, shared_) h
            · have h := if_f h hc76
              refine aw_skip ?_
              refine aw_weak (weak_ofP [0, 1, 2, 3, 4] (l := [(1, .d (.int .i64 at_)), (3, .d (.cx .f32 own_.re own_.im)), (4, .d (.cx .f32 shared_.re shared_.im)), (5, .ptr 0 0), (10, .ptr 1 0), (12, .ptr 2 0), (14, .ptr 4 0), (27, .d (.sl false (part_.Buses.map eSBus))), (28, .d (.int .i64 (part_.Buses.length : Int))), (29, .d (.int .i64 v49))]) (objs := [.box [.d (.cx .f32 f_.Source.A.re f_.Source.A.im), .d (.cx .f32 f_.Source.B.re f_.Source.B.im), .d (.cx .f32 f_.Source.C.re f_.Source.C.im), .d (.sl false (f_.Buses.map eSBus))], .box [.d (.cx .f32 (0 : Nat) (0 : Nat)), .d (.cx .f32 (0 : Nat) (0 : Nat)), .d (.cx .f32 (0 : Nat) (0 : Nat)), .d (.nils)], .box [.d (.cx .f32 x25.Source.A.re x25.Source.A.im), .d (.cx .f32 x25.Source.B.re x25.Source.B.im), .d (.cx .f32 x25.Source.C.re x25.Source.C.im), .row 3 v48.length 0 v48.length], .row 8 (v48.map eSBus), .box [.d (.int .i64 (w64 (x67.Parent + (f_.Buses.length : Int)))), .d (.cx .f32 x67.Own.re x67.Own.im), .d (.cx .f32 x67.Shared.re x67.Shared.im), .d (.int .i64 x67.Kind), .d (.cx .f32 x67.Load.A.re x67.Load.A.im), .d (.cx .f32 x67.Load.B.re x67.Load.B.im), .d (.cx .f32 x67.Load.C.re x67.Load.C.im), .d (.int .i64 x67.Customers)]]) rfl (by simp) rfl (by repeat' first | exact trivial | refine ⟨?_, ?_⟩) ⟨rfl, trivial, rfl, trivial, rfl, trivial, rfl, trivial, rfl, trivial, rfl, trivial, rfl, trivial, rfl, trivial, rfl, trivial, rfl, trivial, trivial⟩) ?_
              exact hk75 ((w64 (x67.Parent + (f_.Buses.length : Int))), x67.Own, x67.Shared) h
      · have h := if_f h hc59
        refine aw_exit ?_
        refine aw_weak (weak_ofP [1, 2, 3] (l := [(10, .ptr 0 0), (12, .ptr 1 0)]) (objs := [.box [.d (.cx .f32 (0 : Nat) (0 : Nat)), .d (.cx .f32 (0 : Nat) (0 : Nat)), .d (.cx .f32 (0 : Nat) (0 : Nat)), .d (.nils)], .box [.d (.cx .f32 x25.Source.A.re x25.Source.A.im), .d (.cx .f32 x25.Source.B.re x25.Source.B.im), .d (.cx .f32 x25.Source.C.re x25.Source.C.im), .row 2 v48.length 0 v48.length], .row 8 (v48.map eSBus)]) rfl (by simp) rfl (by repeat' first | exact trivial | refine ⟨?_, ?_⟩) ⟨rfl, trivial, rfl, trivial, trivial⟩) ?_
        exact hk42 v48 h
  · refine aw_seq ?_
    refine aw_hk1 (ι := Bool) (fun v82 => St.of [(1, .d (.int .i64 at_)), (3, .d (.cx .f32 own_.re own_.im)), (4, .d (.cx .f32 shared_.re shared_.im)), (5, .ptr 0 0), (7, .ptr 1 0), (10, .ptr 2 0), (22, .d (.bool v82))] [.box [.d (.cx .f32 f_.Source.A.re f_.Source.A.im), .d (.cx .f32 f_.Source.B.re f_.Source.B.im), .d (.cx .f32 f_.Source.C.re f_.Source.C.im), .d (.sl false (f_.Buses.map eSBus))], .box [.d (.cx .f32 part_.Source.A.re part_.Source.A.im), .d (.cx .f32 part_.Source.B.re part_.Source.B.im), .d (.cx .f32 part_.Source.C.re part_.Source.C.im), .d (.sl false (part_.Buses.map eSBus))], .box [.d (.cx .f32 (0 : Nat) (0 : Nat)), .d (.cx .f32 (0 : Nat) (0 : Nat)), .d (.cx .f32 (0 : Nat) (0 : Nat)), .d (.nils)]] f24.ntmps 0) (fun v82 => m_impl_GraftFeeder_j6 n f_ at_ part_ own_ shared_ v82 = some r) ?_ (fun hk84 => ?_)
    · rintro v82 h
      replace h : m_impl_GraftFeeder_j6 n f_ at_ part_ own_ shared_ v82 = some r := h
      unfold m_impl_GraftFeeder_j6 at h
      refine aw_cond rfl (fun hc83 => ?_) (fun hc83 => ?_)
      · have h := if_bt h hc83
        refine aw_seq ?_
        refine aw_region ?_
        refine awl_val hτ rfl rfl rfl ?_
        refine awl_valH hτ rfl rfl rfl ?_
        refine awl_val hτ rfl rfl rfl ?_
        refine awl_nil ?_
        refine aw_weak (weak_ofP [2] (l := [(10, .ptr 0 0), (11, .d (.bool false))]) (objs := [.box [.d (.cx .f32 (0 : Nat) (0 : Nat)), .d (.cx .f32 (0 : Nat) (0 : Nat)), .d (.cx .f32 (0 : Nat) (0 : Nat)), .d (.nils)]]) rfl (by simp) rfl (by repeat' first | exact trivial | refine ⟨?_, ?_⟩) ⟨rfl, trivial, rfl, trivial, trivial⟩) ?_
        refine aw_weak (weak_relax [] (l' := [(10, .ptr 0 0), (11, .d (.bool false))]) (objs' := [.box [.d (.cx .f32 (0 : Nat) (0 : Nat)), .d (.cx .f32 (0 : Nat) (0 : Nat)), .d (.cx .f32 (0 : Nat) (0 : Nat)), .d (.sl false (([] : List SBus).map eSBus))]]) (.cons (.c (.refl _)) (.cons (.c (.refl _)) .nil)) (.cons (.box (.cons (.refl _) (.cons (.refl _) (.cons (.refl _) (.cons (.d .nil) .nil))))) .nil)) ?_
        refine aw_ret ?_
        have hr := Option.some.inj h
        subst hr
        exact ret_objs (.inr rfl) [] (objs' := []) (new := []) rfl (by simp) (by simp) rfl (by repeat' first | exact trivial | refine ⟨?_, ?_⟩) rfl rfl (by repeat' first | exact trivial | refine ⟨?_, ?_⟩) (fun h => nomatch h) ⟨rfl, rfl, rfl⟩
      · have h := if_bf h hc83
        refine aw_skip ?_
        refine aw_weak (weak_ofP [0, 1, 2] (l := [(1, .d (.int .i64 at_)), (3, .d (.cx .f32 own_.re own_.im)), (4, .d (.cx .f32 shared_.re shared_.im)), (5, .ptr 0 0), (7, .ptr 1 0), (10, .ptr 2 0)]) (objs := [.box [.d (.cx .f32 f_.Source.A.re f_.Source.A.im), .d (.cx .f32 f_.Source.B.re f_.Source.B.im), .d (.cx .f32 f_.Source.C.re f_.Source.C.im), .d (.sl false (f_.Buses.map eSBus))], .box [.d (.cx .f32 part_.Source.A.re part_.Source.A.im), .d (.cx .f32 part_.Source.B.re part_.Source.B.im), .d (.cx .f32 part_.Source.C.re part_.Source.C.im), .d (.sl false (part_.Buses.map eSBus))], .box [.d (.cx .f32 (0 : Nat) (0 : Nat)), .d (.cx .f32 (0 : Nat) (0 : Nat)), .d (.cx .f32 (0 : Nat) (0 : Nat)), .d (.nils)]]) rfl (by simp) rfl (by repeat' first | exact trivial | refine ⟨?_, ?_⟩) ⟨rfl, trivial, rfl, trivial, rfl, trivial, rfl, trivial, rfl, trivial, rfl, trivial, trivial⟩) ?_
        exact hk77 () h
    · refine aw_seq ?_
      refine aw_region ?_
      refine awl_val hτ rfl rfl rfl ?_
      refine bnd_elim h fun x85 hx85 h => ?_
      refine awl_callP hτ false [0] rfl rfl rfl (enterOk func79 rfl rfl) rfl rfl (by simp) ⟨trivial, trivial, trivial⟩ (by repeat' first | exact trivial | refine ⟨?_, ?_⟩) (impl_Feeder_has_ok n f_ at_ hx85) ?_
      rintro r0 o0 n0 ⟨rfl, rfl, rfl⟩ -
      refine awl_val hτ rfl rfl rfl ?_
      refine awl_val hτ rfl rfl rfl ?_
      refine awl_split 18 rfl (fun hb86 => ?_) (fun hb86 => ?_)
      · have hb86 := not_t hb86
        have h := if_bf h hb86
        refine awl_skip rfl rfl ?_
        refine awl_skip rfl rfl ?_
        refine awl_skip rfl rfl ?_
        refine awl_val hτ rfl rfl rfl ?_
        refine awl_nil ?_
        refine aw_weak (weak_ofP [0, 1, 2] (l := [(1, .d (.int .i64 at_)), (3, .d (.cx .f32 own_.re own_.im)), (4, .d (.cx .f32 shared_.re shared_.im)), (5, .ptr 0 0), (7, .ptr 1 0), (10, .ptr 2 0), (22, .d (.bool true))]) (objs := [.box [.d (.cx .f32 f_.Source.A.re f_.Source.A.im), .d (.cx .f32 f_.Source.B.re f_.Source.B.im), .d (.cx .f32 f_.Source.C.re f_.Source.C.im), .d (.sl false (f_.Buses.map eSBus))], .box [.d (.cx .f32 part_.Source.A.re part_.Source.A.im), .d (.cx .f32 part_.Source.B.re part_.Source.B.im), .d (.cx .f32 part_.Source.C.re part_.Source.C.im), .d (.sl false (part_.Buses.map eSBus))], .box [.d (.cx .f32 (0 : Nat) (0 : Nat)), .d (.cx .f32 (0 : Nat) (0 : Nat)), .d (.cx .f32 (0 : Nat) (0 : Nat)), .d (.nils)]]) rfl (by simp) rfl (by repeat' first | exact trivial | refine ⟨?_, ?_⟩) ⟨rfl, trivial, rfl, trivial, rfl, trivial, rfl, trivial, rfl, trivial, rfl, trivial, rfl, trivial, trivial⟩) ?_
        exact hk84 true h
      · have hb86 := not_f hb86
        have h := if_bt h hb86
        refine awl_val hτ rfl rfl rfl ?_
        refine bnd_elim h fun x87 hx87 h => ?_
        refine awl_callP hτ false [] rfl rfl rfl (enterOk func20 rfl rfl) rfl rfl (by simp) ⟨(by repeat' first | exact trivial | refine ⟨?_, ?_⟩), trivial⟩ (by repeat' first | exact trivial | refine ⟨?_, ?_⟩) (impl_ValidFeeder_ok n part_ hx87) ?_
        rintro r0 o0 n0 ⟨rfl, rfl, rfl⟩ -
        refine awl_val hτ rfl rfl rfl ?_
        refine awl_val hτ rfl rfl rfl ?_
        refine awl_nil ?_
        refine aw_weak (weak_ofP [0, 1, 2] (l := [(1, .d (.int .i64 at_)), (3, .d (.cx .f32 own_.re own_.im)), (4, .d (.cx .f32 shared_.re shared_.im)), (5, .ptr 0 0), (7, .ptr 1 0), (10, .ptr 2 0), (22, .d (.bool (!x87)))]) (objs := [.box [.d (.cx .f32 f_.Source.A.re f_.Source.A.im), .d (.cx .f32 f_.Source.B.re f_.Source.B.im), .d (.cx .f32 f_.Source.C.re f_.Source.C.im), .d (.sl false (f_.Buses.map eSBus))], .box [.d (.cx .f32 part_.Source.A.re part_.Source.A.im), .d (.cx .f32 part_.Source.B.re part_.Source.B.im), .d (.cx .f32 part_.Source.C.re part_.Source.C.im), .d (.sl false (part_.Buses.map eSBus))], .box [.d (.cx .f32 (0 : Nat) (0 : Nat)), .d (.cx .f32 (0 : Nat) (0 : Nat)), .d (.cx .f32 (0 : Nat) (0 : Nat)), .d (.nils)]]) rfl (by simp) rfl (by repeat' first | exact trivial | refine ⟨?_, ?_⟩) ⟨rfl, trivial, rfl, trivial, rfl, trivial, rfl, trivial, rfl, trivial, rfl, trivial, rfl, trivial, trivial⟩) ?_
        exact hk84 (!x87) h

def m_impl_Feeder_customers_l1 (n : Nat) (f_ : SFeeder) (buses_ : List Int) : Nat → Int → Int → Option Int
  | 0, _, _ => none
  | m17 + 1, v11, v12 =>
    if v12 < (buses_.length : Int) then
      (getI buses_ v12).bind fun x20 =>
      (getI f_.Buses x20).bind fun x21 =>
      (m_impl_Feeder_customers_l1 n f_ buses_ m17) (w64 (v11 + x21.Customers)) (w64 (v12 + (1 : Int)))
    else
      some v11
def m_impl_Feeder_customers (n : Nat) (f_ : SFeeder) (buses_ : List Int) : Option Int :=
  m_impl_Feeder_customers_l1 n f_ buses_ n (0 : Int) (0 : Int)
theorem impl_Feeder_customers_ok (n : Nat) (f_ : SFeeder) (buses_ : List Int) {r : Int} (h : m_impl_Feeder_customers n f_ buses_ = some r) : ACall prog false 83 [.ptr 0 0, .d (.sl false (buses_.map eInti64))] [.box [.d (.cx .f32 f_.Source.A.re f_.Source.A.im), .d (.cx .f32 f_.Source.B.re f_.Source.B.im), .d (.cx .f32 f_.Source.C.re f_.Source.C.im), .d (.sl false (f_.Buses.map eSBus))]] (fun v o new => v = .d (.int .i64 r) ∧ o = [.box [.d (.cx .f32 f_.Source.A.re f_.Source.A.im), .d (.cx .f32 f_.Source.B.re f_.Source.B.im), .d (.cx .f32 f_.Source.C.re f_.Source.C.im), .d (.sl false (f_.Buses.map eSBus))]] ∧ new = []) := by
  refine acall_of_aw hτ func83 rfl (by simp) (by simp) ?_
  unfold m_impl_Feeder_customers at h
  refine aw_seq ?_
  refine aw_region ?_
  refine awl_val hτ rfl rfl rfl ?_
  refine awl_nil ?_
  refine aw_seq ?_
  refine aw_region ?_
  refine awl_val hτ rfl rfl rfl ?_
  refine awl_nil ?_
  refine aw_seq ?_
  refine aw_seq ?_
  refine aw_region ?_
  refine awl_val hτ rfl rfl rfl ?_
  refine awl_val hτ (v := .d (.int .i64 (buses_.length : Int))) rfl rfl (Eq.trans rfl (or_len (f := eInti64) buses_)) ?_
  refine awl_val hτ rfl rfl rfl ?_
  refine awl_nil ?_
  refine aw_block ?_
  refine aw_loop (ι := Nat × Int × Int) (fun (m17, v11, v12) => St.of [(0, .ptr 0 0), (5, .d (.int .i64 v11)), (8, .d (.sl false (buses_.map eInti64))), (9, .d (.int .i64 (buses_.length : Int))), (10, .d (.int .i64 v12))] [.box [.d (.cx .f32 f_.Source.A.re f_.Source.A.im), .d (.cx .f32 f_.Source.B.re f_.Source.B.im), .d (.cx .f32 f_.Source.C.re f_.Source.C.im), .d (.sl false (f_.Buses.map eSBus))]] f83.ntmps 1) (fun (m17, v11, v12) => m_impl_Feeder_customers_l1 n f_ buses_ m17 v11 v12 = some r) (fun x => x.1) (n, (0 : Int), (0 : Int)) h (weak_ofP [0] (l := [(0, .ptr 0 0), (5, .d (.int .i64 (0 : Int))), (8, .d (.sl false (buses_.map eInti64))), (9, .d (.int .i64 (buses_.length : Int))), (10, .d (.int .i64 (0 : Int)))]) (objs := [.box [.d (.cx .f32 f_.Source.A.re f_.Source.A.im), .d (.cx .f32 f_.Source.B.re f_.Source.B.im), .d (.cx .f32 f_.Source.C.re f_.Source.C.im), .d (.sl false (f_.Buses.map eSBus))]]) rfl (by simp) rfl (by repeat' first | exact trivial | refine ⟨?_, ?_⟩) ⟨rfl, trivial, rfl, trivial, rfl, trivial, rfl, trivial, rfl, trivial, trivial⟩) ?_
  rintro ⟨m17, v11, v12⟩ h
  replace h : m_impl_Feeder_customers_l1 n f_ buses_ m17 v11 v12 = some r := h
  rcases m17 with _ | m17
  · rw [m_impl_Feeder_customers_l1] at h; cases h
  rw [m_impl_Feeder_customers_l1] at h
  refine aw_seq ?_
  refine aw_region ?_
  refine awl_val hτ rfl rfl rfl ?_
  refine awl_nil ?_
  refine aw_seq ?_
  refine aw_cond rfl (fun hc19 => ?_) (fun hc19 => ?_)
  · have h := if_t h hc19
    refine aw_skip ?_
    refine aw_seq ?_
    refine aw_block ?_
    refine aw_seq ?_
    refine aw_region ?_
    refine bnd_elim h fun x20 hx20 h => ?_
    refine awl_elem hτ rfl rfl rfl (getI_some hx20).1 (map_getI hx20) rfl ?_
    refine awl_val hτ rfl rfl rfl ?_
    refine awl_val hτ rfl rfl rfl ?_
    refine awl_nil ?_
    refine aw_region ?_
    refine awl_val hτ rfl rfl rfl ?_
    refine awl_val hτ rfl rfl rfl ?_
    refine awl_val hτ rfl rfl rfl ?_
    refine awl_val hτ rfl rfl rfl ?_
    refine awl_val hτ rfl rfl rfl ?_
    refine awl_val hτ rfl rfl rfl ?_
    refine bnd_elim h fun x21 hx21 h => ?_
    refine awl_elem hτ rfl rfl rfl (getI_some hx21).1 (map_getI hx21) rfl ?_
    refine awl_val hτ rfl rfl rfl ?_
    refine awl_weak (weak_ofP [0] (l := [(0, .ptr 0 0), (5, .d (.int .i64 v11)), (8, .d (.sl false (buses_.map eInti64))), (9, .d (.int .i64 (buses_.length : Int))), (10, .d (.int .i64 v12)), (14, .d (.int .i64 v11)), (21, .rop [.int .i64 x21.Parent, .cx .f32 x21.Own.re x21.Own.im, .cx .f32 x21.Shared.re x21.Shared.im, .int .i64 x21.Kind, .cx .f32 x21.Load.A.re x21.Load.A.im, .cx .f32 x21.Load.B.re x21.Load.B.im, .cx .f32 x21.Load.C.re x21.Load.C.im, .int .i64 x21.Customers] 7)]) (objs := [.box [.d (.cx .f32 f_.Source.A.re f_.Source.A.im), .d (.cx .f32 f_.Source.B.re f_.Source.B.im), .d (.cx .f32 f_.Source.C.re f_.Source.C.im), .d (.sl false (f_.Buses.map eSBus))]]) rfl (by simp) rfl (by repeat' first | exact trivial | refine ⟨?_, ?_⟩) ⟨rfl, trivial, rfl, trivial, rfl, trivial, rfl, trivial, rfl, trivial, rfl, trivial, rfl, trivial, trivial⟩) ?_
    refine awl_val hτ rfl rfl rfl ?_
    refine awl_val hτ rfl rfl rfl ?_
    refine awl_val hτ rfl rfl rfl ?_
    refine awl_nil ?_
    refine aw_region ?_
    refine awl_val hτ rfl rfl rfl ?_
    refine awl_val hτ rfl rfl rfl ?_
    refine awl_nil ?_
    exact ⟨(m17, (w64 (v11 + x21.Customers)), (w64 (v12 + (1 : Int)))), h, Nat.lt_succ_self m17, (weak_ofP [0] (l := [(0, .ptr 0 0), (5, .d (.int .i64 (w64 (v11 + x21.Customers)))), (8, .d (.sl false (buses_.map eInti64))), (9, .d (.int .i64 (buses_.length : Int))), (10, .d (.int .i64 (w64 (v12 + (1 : Int)))))]) (objs := [.box [.d (.cx .f32 f_.Source.A.re f_.Source.A.im), .d (.cx .f32 f_.Source.B.re f_.Source.B.im), .d (.cx .f32 f_.Source.C.re f_.Source.C.im), .d (.sl false (f_.Buses.map eSBus))]]) rfl (by simp) rfl (by repeat' first | exact trivial | refine ⟨?_, ?_⟩) ⟨rfl, trivial, rfl, trivial, rfl, trivial, rfl, trivial, rfl, trivial, trivial⟩)⟩
  · have h := if_f h hc19
    refine aw_exit ?_
    refine aw_seq ?_
    refine aw_region ?_
    refine awl_val hτ rfl rfl rfl ?_
    refine awl_val hτ rfl rfl rfl ?_
    refine awl_nil ?_
    refine aw_weak (weak_ofP [0] (l := [(4, .d (.int .i64 v11))]) (objs := [.box [.d (.cx .f32 f_.Source.A.re f_.Source.A.im), .d (.cx .f32 f_.Source.B.re f_.Source.B.im), .d (.cx .f32 f_.Source.C.re f_.Source.C.im), .d (.sl false (f_.Buses.map eSBus))]]) rfl (by simp) rfl (by repeat' first | exact trivial | refine ⟨?_, ?_⟩) ⟨rfl, trivial, trivial⟩) ?_
    refine aw_ret ?_
    have hr := Option.some.inj h
    subst hr
    exact ret_objs (.inr rfl) [] (objs' := [.box [.d (.cx .f32 f_.Source.A.re f_.Source.A.im), .d (.cx .f32 f_.Source.B.re f_.Source.B.im), .d (.cx .f32 f_.Source.C.re f_.Source.C.im), .d (.sl false (f_.Buses.map eSBus))]]) (new := []) rfl (by simp) (by simp) rfl (by repeat' first | exact trivial | refine ⟨?_, ?_⟩) rfl rfl (by repeat' first | exact trivial | refine ⟨?_, ?_⟩) (fun h => nomatch h) ⟨rfl, rfl, rfl⟩

def m_impl_CustomersBelow_l1 (n : Nat) (f_ : SFeeder) : Nat → List Int → Int → Option (List Int × Bool)
  | 0, _, _ => none
  | m25 + 1, v18, v19 =>
    if v19 < (f_.Buses.length : Int) then
      (m_impl_Feeder_below n f_ v19).bind fun x28 =>
      (m_impl_Feeder_customers n f_ x28).bind fun x29 =>
      grd (room (v18.length + 1) 8) <|
      (m_impl_CustomersBelow_l1 n f_ m25) (v18 ++ [x29]) (w64 (v19 + (1 : Int)))
    else
      some (v18, true)
def m_impl_CustomersBelow (n : Nat) (f_ : SFeeder) : Option (List Int × Bool) :=
  (m_impl_ValidFeeder n f_).bind fun x13 =>
  if x13 = true then
    m_impl_CustomersBelow_l1 n f_ n ([] : List Int) (0 : Int)
  else
    some (([] : List Int), false)
theorem impl_CustomersBelow_ok_fr0 (fr : Bool) (n : Nat) (f_ : SFeeder) {r : List Int × Bool} (h : m_impl_CustomersBelow n f_ = some r) : ACall prog fr 19 [.agg [.d (.cx .f32 f_.Source.A.re f_.Source.A.im), .d (.cx .f32 f_.Source.B.re f_.Source.B.im), .d (.cx .f32 f_.Source.C.re f_.Source.C.im), .d (.sl false (f_.Buses.map eSBus))]] [] (fun v o new => v = .tup [.row 0 r.1.length 0 r.1.length, .d (.bool r.2)] ∧ o = [] ∧ new = [.row 1 (r.1.map eInti64)]) := by
  refine acall_of_aw hτ func19 rfl (by simp) (by simp) ?_
  unfold m_impl_CustomersBelow at h
  refine aw_seq ?_
  refine aw_region ?_
  refine awl_valH hτ rfl rfl rfl ?_
  refine awl_val hτ rfl rfl rfl ?_
  refine awl_val hτ rfl rfl rfl ?_
  refine awl_nil ?_
  refine aw_seq ?_
  refine aw_seq ?_
  refine aw_region ?_
  refine awl_val hτ rfl rfl rfl ?_
  refine bnd_elim h fun x13 hx13 h => ?_
  refine awl_callP hτ false [] rfl rfl rfl (enterOk func20 rfl rfl) rfl rfl (by simp) ⟨(by repeat' first | exact trivial | refine ⟨?_, ?_⟩), trivial⟩ (by repeat' first | exact trivial | refine ⟨?_, ?_⟩) (impl_ValidFeeder_ok n f_ hx13) ?_
  rintro r0 o0 n0 ⟨rfl, rfl, rfl⟩ -
  refine awl_val hτ rfl rfl rfl ?_
  refine awl_nil ?_
  refine aw_weak (weak_ofP [0] (l := [(1, .ptr 0 0), (8, .d (.bool (!x13)))]) (objs := [.box [.d (.cx .f32 f_.Source.A.re f_.Source.A.im), .d (.cx .f32 f_.Source.B.re f_.Source.B.im), .d (.cx .f32 f_.Source.C.re f_.Source.C.im), .d (.sl false (f_.Buses.map eSBus))]]) rfl (by simp) rfl (by repeat' first | exact trivial | refine ⟨?_, ?_⟩) ⟨rfl, trivial, rfl, trivial, trivial⟩) ?_
  refine aw_cond rfl (fun hc14 => ?_) (fun hc14 => ?_)
  · have hc14 := not_t hc14
    have h := if_bf h hc14
    refine aw_seq ?_
    refine aw_region ?_
    refine awl_val hτ rfl rfl rfl ?_
    refine awl_val hτ rfl rfl rfl ?_
    refine awl_nil ?_
    refine aw_weak (weak_ofP [] (l := [(2, .d (.nils)), (3, .d (.bool false))]) (objs := []) rfl (by simp) rfl (by repeat' first | exact trivial | refine ⟨?_, ?_⟩) ⟨rfl, trivial, rfl, trivial, trivial⟩) ?_
    refine aw_weak (weak_relax [1] (l' := [(2, .row 0 (([] : List Int).length) 0 (([] : List Int).length)), (3, .d (.bool false))]) (objs' := []) (.cons (.c (.ghost ⟨Nat.le_of_ble_eq_true rfl, Nat.le_of_ble_eq_true rfl⟩)) (.cons (.c (.refl _)) .nil)) .nil) ?_
    refine aw_ret ?_
    have hr := Option.some.inj h
    subst hr
    exact ret_objs (.inr rfl) [0] (objs' := []) (new := [.row 1 (([] : List Int).map eInti64)]) rfl (by simp) (by simp) rfl (by repeat' first | exact trivial | refine ⟨?_, ?_⟩) rfl rfl (by repeat' first | exact trivial | refine ⟨?_, ?_⟩) (fun _ => ⟨by simp [V.flat, V.flatA, V.flatC, D.flat], (flat_cons (flat_row eInti64_flat _) flat_nil)⟩) ⟨rfl, rfl, rfl⟩
  · have hc14 := not_f hc14
    have h := if_bt h hc14
    refine aw_skip ?_
    refine aw_seq ?_
    refine aw_region ?_
    refine awl_valH hτ rfl rfl rfl ?_
    refine awl_val hτ rfl rfl rfl ?_
    refine awl_nil ?_
    refine aw_seq ?_
    refine aw_seq ?_
    refine aw_region ?_
    refine awl_val hτ rfl rfl rfl ?_
    refine awl_val hτ rfl rfl rfl ?_
    refine awl_val hτ (v := .d (.int .i64 (f_.Buses.length : Int))) rfl rfl (Eq.trans rfl (or_len (f := eSBus) f_.Buses)) ?_
    refine awl_val hτ rfl rfl rfl ?_
    refine awl_nil ?_
    refine aw_block ?_
    refine aw_loop (ι := Nat × List Int × Int) (fun (m25, v18, v19) => St.of [(1, .ptr 0 0), (4, .row 1 v18.length 0 v18.length), (12, .d (.int .i64 (f_.Buses.length : Int))), (13, .d (.int .i64 v19))] [.box [.d (.cx .f32 f_.Source.A.re f_.Source.A.im), .d (.cx .f32 f_.Source.B.re f_.Source.B.im), .d (.cx .f32 f_.Source.C.re f_.Source.C.im), .d (.sl false (f_.Buses.map eSBus))], .row 1 (v18.map eInti64)] f19.ntmps 0) (fun (m25, v18, v19) => m_impl_CustomersBelow_l1 n f_ m25 v18 v19 = some r) (fun x => x.1) (n, ([] : List Int), (0 : Int)) h (weak_ofP [0, 1] (l := [(1, .ptr 0 0), (4, .row 1 (([] : List Int).length) 0 (([] : List Int).length)), (12, .d (.int .i64 (f_.Buses.length : Int))), (13, .d (.int .i64 (0 : Int)))]) (objs := [.box [.d (.cx .f32 f_.Source.A.re f_.Source.A.im), .d (.cx .f32 f_.Source.B.re f_.Source.B.im), .d (.cx .f32 f_.Source.C.re f_.Source.C.im), .d (.sl false (f_.Buses.map eSBus))], .row 1 (([] : List Int).map eInti64)]) rfl (by simp) rfl (by repeat' first | exact trivial | refine ⟨?_, ?_⟩) ⟨rfl, trivial, rfl, trivial, rfl, trivial, rfl, trivial, trivial⟩) ?_
    rintro ⟨m25, v18, v19⟩ h
    replace h : m_impl_CustomersBelow_l1 n f_ m25 v18 v19 = some r := h
    rcases m25 with _ | m25
    · rw [m_impl_CustomersBelow_l1] at h; cases h
    rw [m_impl_CustomersBelow_l1] at h
    refine aw_seq ?_
    refine aw_region ?_
    refine awl_val hτ rfl rfl rfl ?_
    refine awl_nil ?_
    refine aw_seq ?_
    refine aw_cond rfl (fun hc27 => ?_) (fun hc27 => ?_)
    · have h := if_t h hc27
      refine aw_skip ?_
      refine aw_seq ?_
      refine aw_block ?_
      refine aw_seq ?_
      refine aw_region ?_
      refine awl_val hτ rfl rfl rfl ?_
      refine awl_val hτ rfl rfl rfl ?_
      refine awl_nil ?_
      refine aw_region ?_
      refine awl_val hτ rfl rfl rfl ?_
      refine awl_val hτ rfl rfl rfl ?_
      refine bnd_elim h fun x28 hx28 h => ?_
      refine awl_callP hτ false [0] rfl rfl rfl (enterOk func81 rfl rfl) rfl rfl (by simp) ⟨trivial, trivial, trivial⟩ (by repeat' first | exact trivial | refine ⟨?_, ?_⟩) (impl_Feeder_below_ok n f_ v19 hx28) ?_
      rintro r0 o0 n0 ⟨rfl, rfl, rfl⟩ -
      refine awl_weak (weak_ofP [0, 1] (l := [(1, .ptr 0 0), (4, .row 1 v18.length 0 v18.length), (12, .d (.int .i64 (f_.Buses.length : Int))), (13, .d (.int .i64 v19)), (16, .row 1 v18.length 0 v18.length), (18, .d (.sl false (x28.map eInti64)))]) (objs := [.box [.d (.cx .f32 f_.Source.A.re f_.Source.A.im), .d (.cx .f32 f_.Source.B.re f_.Source.B.im), .d (.cx .f32 f_.Source.C.re f_.Source.C.im), .d (.sl false (f_.Buses.map eSBus))], .row 1 (v18.map eInti64)]) rfl (by simp) rfl (by repeat' first | exact trivial | refine ⟨?_, ?_⟩) ⟨rfl, trivial, rfl, trivial, rfl, trivial, rfl, trivial, rfl, trivial, (exV_view (f := eInti64) x28 rfl rfl rfl), (exVP_view (f := eInti64) x28 rfl rfl rfl), trivial⟩) ?_
      refine bnd_elim h fun x29 hx29 h => ?_
      refine awl_callP hτ false [0] rfl rfl rfl (enterOk func83 rfl rfl) rfl rfl (by simp) ⟨trivial, trivial, trivial⟩ (by repeat' first | exact trivial | refine ⟨?_, ?_⟩) (impl_Feeder_customers_ok n f_ x28 hx29) ?_
      rintro r0 o0 n0 ⟨rfl, rfl, rfl⟩ -
      refine awl_valH hτ rfl rfl rfl ?_
      refine grd_elim h fun hg30 h => ?_
      refine awl_needH hτ rfl rfl (Eq.trans rfl (or_append (f := eInti64) v18 [x29] rfl)) ⟨⟨rfl, Nat.le_of_ble_eq_true rfl⟩, len_map _, rfl, rfl, hg30, by decide, (all1 rfl)⟩ ?_
      refine awl_val hτ rfl rfl rfl ?_
      refine awl_nil ?_
      refine aw_region ?_
      refine awl_val hτ rfl rfl rfl ?_
      refine awl_val hτ rfl rfl rfl ?_
      refine awl_nil ?_
      exact ⟨(m25, (v18 ++ [x29]), (w64 (v19 + (1 : Int)))), h, Nat.lt_succ_self m25, (weak_ofP [0, 1] (l := [(1, .ptr 0 0), (4, .row 1 ((v18 ++ [x29]).length) 0 ((v18 ++ [x29]).length)), (12, .d (.int .i64 (f_.Buses.length : Int))), (13, .d (.int .i64 (w64 (v19 + (1 : Int)))))]) (objs := [.box [.d (.cx .f32 f_.Source.A.re f_.Source.A.im), .d (.cx .f32 f_.Source.B.re f_.Source.B.im), .d (.cx .f32 f_.Source.C.re f_.Source.C.im), .d (.sl false (f_.Buses.map eSBus))], .row 1 ((v18 ++ [x29]).map eInti64)]) rfl (by simp) rfl (by repeat' first | exact trivial | refine ⟨?_, ?_⟩) ⟨rfl, trivial, rfl, trivial, rfl, trivial, rfl, trivial, trivial⟩)⟩
    · have h := if_f h hc27
      refine aw_exit ?_
      refine aw_seq ?_
      refine aw_region ?_
      refine awl_val hτ rfl rfl rfl ?_
      refine awl_val hτ rfl rfl rfl ?_
      refine awl_val hτ rfl rfl rfl ?_
      refine awl_nil ?_
      refine aw_weak (weak_ofP [1] (l := [(2, .row 0 v18.length 0 v18.length), (3, .d (.bool true))]) (objs := [.row 1 (v18.map eInti64)]) rfl (by simp) rfl (by repeat' first | exact trivial | refine ⟨?_, ?_⟩) ⟨rfl, trivial, rfl, trivial, trivial⟩) ?_
      refine aw_ret ?_
      have hr := Option.some.inj h
      subst hr
      exact ret_objs (.inr rfl) [0] (objs' := []) (new := [.row 1 (v18.map eInti64)]) rfl (by simp) (by simp) rfl (by repeat' first | exact trivial | refine ⟨?_, ?_⟩) rfl rfl (by repeat' first | exact trivial | refine ⟨?_, ?_⟩) (fun _ => ⟨by simp [V.flat, V.flatA, V.flatC, D.flat], (flat_cons (flat_row eInti64_flat _) flat_nil)⟩) ⟨rfl, rfl, rfl⟩
theorem impl_CustomersBelow_ok (n : Nat) (f_ : SFeeder) {r : List Int × Bool} (h : m_impl_CustomersBelow n f_ = some r) : ACall prog false 19 [.agg [.d (.cx .f32 f_.Source.A.re f_.Source.A.im), .d (.cx .f32 f_.Source.B.re f_.Source.B.im), .d (.cx .f32 f_.Source.C.re f_.Source.C.im), .d (.sl false (f_.Buses.map eSBus))]] [] (fun v o new => v = .tup [.row 0 r.1.length 0 r.1.length, .d (.bool r.2)] ∧ o = [] ∧ new = [.row 1 (r.1.map eInti64)]) := impl_CustomersBelow_ok_fr0 false n f_ h
theorem impl_CustomersBelow_ok_fr (n : Nat) (f_ : SFeeder) {r : List Int × Bool} (h : m_impl_CustomersBelow n f_ = some r) : ACall prog true 19 [.agg [.d (.cx .f32 f_.Source.A.re f_.Source.A.im), .d (.cx .f32 f_.Source.B.re f_.Source.B.im), .d (.cx .f32 f_.Source.C.re f_.Source.C.im), .d (.sl false (f_.Buses.map eSBus))]] [] (fun v o new => v = .tup [.row 0 r.1.length 0 r.1.length, .d (.bool r.2)] ∧ o = [] ∧ new = [.row 1 (r.1.map eInti64)]) := impl_CustomersBelow_ok_fr0 true n f_ h

def m_slices_Reverse_l1 (n : Nat) : Nat → List Int → Int → Int → Option (List Int)
  | 0, _, _, _ => none
  | m25 + 1, v16, v17, v18 =>
    if v17 < v18 then
      (getI v16 v18).bind fun x28 =>
      (getI v16 v17).bind fun x29 =>
      (getI (v16.set v17.toNat x28) v18).bind fun x30 =>
      (m_slices_Reverse_l1 n m25) ((v16.set v17.toNat x28).set v18.toNat x29) (w64 (v17 + (1 : Int))) (w64 (v18 - (1 : Int)))
    else
      some v16
def m_slices_Reverse (n : Nat) (s_ : List Int) : Option (List Int) :=
  m_slices_Reverse_l1 n n s_ (0 : Int) (w64 ((s_.length : Int) - (1 : Int)))
theorem slices_Reverse_ok_fr0 (fr : Bool) (n : Nat) (s_ : List Int) {r : List Int} (h : m_slices_Reverse n s_ = some r) : ACall prog fr 144 [.row 0 s_.length 0 s_.length] [.row 1 (s_.map eInti64)] (fun v o new => v = .tup [] ∧ o = [.row 1 (r.map eInti64)] ∧ new = []) := by
  refine acall_of_aw hτ func144 rfl (by simp) (by simp) ?_
  unfold m_slices_Reverse at h
  refine aw_seq ?_
  refine aw_region ?_
  refine awl_val hτ rfl rfl rfl ?_
  refine awl_need hτ rfl rfl rfl (len_map _) ?_
  refine awl_val hτ rfl rfl rfl ?_
  refine awl_val hτ rfl rfl rfl ?_
  refine awl_val hτ rfl rfl rfl ?_
  refine awl_nil ?_
  refine aw_block ?_
  refine aw_loop (ι := Nat × List Int × Int × Int) (fun (m25, v16, v17, v18) => St.of [(0, .row 0 v16.length 0 v16.length), (2, .d (.int .i64 v17)), (3, .d (.int .i64 v18))] [.row 1 (v16.map eInti64)] f144.ntmps 1) (fun (m25, v16, v17, v18) => m_slices_Reverse_l1 n m25 v16 v17 v18 = some r) (fun x => x.1) (n, s_, (0 : Int), (w64 ((s_.length : Int) - (1 : Int)))) h (weak_ofP [0] (l := [(0, .row 0 s_.length 0 s_.length), (2, .d (.int .i64 (0 : Int))), (3, .d (.int .i64 (w64 ((s_.length : Int) - (1 : Int)))))]) (objs := [.row 1 (s_.map eInti64)]) rfl (by simp) rfl (by repeat' first | exact trivial | refine ⟨?_, ?_⟩) ⟨rfl, trivial, rfl, trivial, rfl, trivial, trivial⟩) ?_
  rintro ⟨m25, v16, v17, v18⟩ h
  replace h : m_slices_Reverse_l1 n m25 v16 v17 v18 = some r := h
  rcases m25 with _ | m25
  · rw [m_slices_Reverse_l1] at h; cases h
  rw [m_slices_Reverse_l1] at h
  refine aw_seq ?_
  refine aw_seq ?_
  refine aw_region ?_
  refine awl_val hτ rfl rfl rfl ?_
  refine awl_val hτ rfl rfl rfl ?_
  refine awl_val hτ rfl rfl rfl ?_
  refine awl_nil ?_
  refine aw_cond rfl (fun hc27 => ?_) (fun hc27 => ?_)
  · have h := if_t h hc27
    refine aw_skip ?_
    refine aw_seq ?_
    refine aw_block ?_
    refine any_start ?_
    refine any_val hτ [] 0 rfl rfl rfl rfl rfl ?_
    refine any_val hτ [] 1 rfl rfl rfl rfl rfl ?_
    refine any_val hτ [] 2 rfl rfl rfl rfl rfl ?_
    refine any_val hτ [] 3 rfl rfl rfl rfl rfl ?_
    refine any_val hτ [] 4 rfl rfl rfl rfl rfl ?_
    refine any_val hτ [] 5 rfl rfl rfl rfl rfl ?_
    refine bnd_elim h fun x28 hx28 h => ?_
    refine any_need hτ [0] 6 rfl rfl rfl rfl rfl (row_need hx28) ?_
    refine any_elem hτ [0] 7 rfl rfl rfl rfl rfl (len_map _) (row_get hx28) rfl ?_
    refine any_val hτ [] 8 rfl rfl rfl rfl rfl ?_
    refine any_val hτ [] 9 rfl rfl rfl rfl rfl ?_
    refine bnd_elim h fun x29 hx29 h => ?_
    refine any_need hτ [0] 10 rfl rfl rfl rfl rfl (row_need hx29) ?_
    refine any_elem hτ [0] 11 rfl rfl rfl rfl rfl (len_map _) (row_get hx29) rfl ?_
    refine any_need hτ [0] 12 rfl rfl rfl rfl rfl (row_need hx29) ?_
    refine any_elemHP hτ [] 13 rfl rfl rfl rfl (len_map _) (row_get hx29) (set_val (f := eInti64) (l := v16) (i := v17) (y := x28) rfl) trivial ?_
    refine bnd_elim h fun x30 hx30 h => ?_
    refine any_need hτ [0] 14 rfl rfl rfl rfl rfl (row_needL hx30 (by simp)) ?_
    refine any_elemHP hτ [] 15 rfl rfl rfl rfl (by simp) (row_get hx30) (set_val (f := eInti64) (l := (v16.set v17.toNat x28)) (i := v18) (y := x29) rfl) trivial ?_
    refine any_done mixed (by kernel_rfl) ?_
    refine aw_weak (weak_ofP [0] (l := [(0, .row 0 (((v16.set v17.toNat x28).set v18.toNat x29).length) 0 (((v16.set v17.toNat x28).set v18.toNat x29).length)), (2, .d (.int .i64 v17)), (3, .d (.int .i64 v18))]) (objs := [.row 1 (((v16.set v17.toNat x28).set v18.toNat x29).map eInti64)]) rfl (by simp) rfl (by repeat' first | exact trivial | refine ⟨?_, ?_⟩) ⟨(exV_rowL rfl (by simp)), trivial, rfl, trivial, rfl, trivial, trivial⟩) ?_
    refine aw_region ?_
    refine awl_val hτ rfl rfl rfl ?_
    refine awl_val hτ rfl rfl rfl ?_
    refine awl_val hτ rfl rfl rfl ?_
    refine awl_val hτ rfl rfl rfl ?_
    refine awl_val hτ rfl rfl rfl ?_
    refine awl_val hτ rfl rfl rfl ?_
    refine awl_nil ?_
    exact ⟨(m25, ((v16.set v17.toNat x28).set v18.toNat x29), (w64 (v17 + (1 : Int))), (w64 (v18 - (1 : Int)))), h, Nat.lt_succ_self m25, (weak_ofP [0] (l := [(0, .row 0 (((v16.set v17.toNat x28).set v18.toNat x29).length) 0 (((v16.set v17.toNat x28).set v18.toNat x29).length)), (2, .d (.int .i64 (w64 (v17 + (1 : Int))))), (3, .d (.int .i64 (w64 (v18 - (1 : Int)))))]) (objs := [.row 1 (((v16.set v17.toNat x28).set v18.toNat x29).map eInti64)]) rfl (by simp) rfl (by repeat' first | exact trivial | refine ⟨?_, ?_⟩) ⟨rfl, trivial, rfl, trivial, rfl, trivial, trivial⟩)⟩
  · have h := if_f h hc27
    refine aw_exit ?_
    have hr := Option.some.inj h
    subst hr
    exact ret_objs (.inl rfl) [] (objs' := [.row 1 (v16.map eInti64)]) (new := []) rfl (by simp) (by simp) rfl (by repeat' first | exact trivial | refine ⟨?_, ?_⟩) rfl rfl (by repeat' first | exact trivial | refine ⟨?_, ?_⟩) (fun _ => ⟨by simp [V.flat, V.flatA, V.flatC, D.flat], (flat_cons (flat_row eInti64_flat _) flat_nil)⟩) ⟨rfl, rfl, rfl⟩
theorem slices_Reverse_ok (n : Nat) (s_ : List Int) {r : List Int} (h : m_slices_Reverse n s_ = some r) : ACall prog false 144 [.row 0 s_.length 0 s_.length] [.row 1 (s_.map eInti64)] (fun v o new => v = .tup [] ∧ o = [.row 1 (r.map eInti64)] ∧ new = []) := slices_Reverse_ok_fr0 false n s_ h
theorem slices_Reverse_ok_fr (n : Nat) (s_ : List Int) {r : List Int} (h : m_slices_Reverse n s_ = some r) : ACall prog true 144 [.row 0 s_.length 0 s_.length] [.row 1 (s_.map eInti64)] (fun v o new => v = .tup [] ∧ o = [.row 1 (r.map eInti64)] ∧ new = []) := slices_Reverse_ok_fr0 true n s_ h

def m_impl_Feeder_path_j1 (n : Nat) (v19 : List Int) : Option (List Int) :=
  (m_slices_Reverse n v19).bind fun x20 =>
  grd (x20.length = v19.length) <|
  some x20
def m_impl_Feeder_path_l2 (n : Nat) (f_ : SFeeder) : Nat → Int → List Int → Option (List Int)
  | 0, _, _ => none
  | m31 + 1, v25, v26 =>
    if v25 ≥ (0 : Int) then
      grd (room (v26.length + 1) 8) <|
      (getI f_.Buses v25).bind fun x35 =>
      (m_impl_Feeder_path_l2 n f_ m31) x35.Parent (v26 ++ [v25])
    else
      m_impl_Feeder_path_j1 n v26
def m_impl_Feeder_path (n : Nat) (f_ : SFeeder) (bus_ : Int) : Option (List Int) :=
  m_impl_Feeder_path_l2 n f_ n bus_ ([] : List Int)
theorem impl_Feeder_path_ok (n : Nat) (f_ : SFeeder) (bus_ : Int) {r : List Int} (h : m_impl_Feeder_path n f_ bus_ = some r) : ACall prog false 80 [.ptr 0 0, .d (.int .i64 bus_)] [.box [.d (.cx .f32 f_.Source.A.re f_.Source.A.im), .d (.cx .f32 f_.Source.B.re f_.Source.B.im), .d (.cx .f32 f_.Source.C.re f_.Source.C.im), .d (.sl false (f_.Buses.map eSBus))]] (fun v o new => v = .row 1 r.length 0 r.length ∧ o = [.box [.d (.cx .f32 f_.Source.A.re f_.Source.A.im), .d (.cx .f32 f_.Source.B.re f_.Source.B.im), .d (.cx .f32 f_.Source.C.re f_.Source.C.im), .d (.sl false (f_.Buses.map eSBus))]] ∧ new = [.row 1 (r.map eInti64)]) := by
  refine acall_of_aw hτ func80 rfl (by simp) (by simp) ?_
  unfold m_impl_Feeder_path at h
  refine aw_seq ?_
  refine aw_region ?_
  refine awl_val hτ rfl rfl rfl ?_
  refine awl_nil ?_
  refine aw_seq ?_
  refine aw_region ?_
  refine awl_valH hτ rfl rfl rfl ?_
  refine awl_val hτ rfl rfl rfl ?_
  refine awl_nil ?_
  refine aw_hk1 (ι := List Int) (fun v19 => St.of [(5, .row 1 v19.length 0 v19.length)] [.box [.d (.cx .f32 f_.Source.A.re f_.Source.A.im), .d (.cx .f32 f_.Source.B.re f_.Source.B.im), .d (.cx .f32 f_.Source.C.re f_.Source.C.im), .d (.sl false (f_.Buses.map eSBus))], .row 1 (v19.map eInti64)] f80.ntmps 1) (fun v19 => m_impl_Feeder_path_j1 n v19 = some r) ?_ (fun hk22 => ?_)
  · rintro v19 h
    replace h : m_impl_Feeder_path_j1 n v19 = some r := h
    unfold m_impl_Feeder_path_j1 at h
    refine aw_seq ?_
    refine aw_region ?_
    refine awl_val hτ rfl rfl rfl ?_
    refine bnd_elim h fun x20 hx20 h => ?_
    refine awl_callP hτ false [1] rfl rfl rfl (enterOk func144 rfl rfl) rfl rfl (by simp) ⟨trivial, trivial⟩ (by repeat' first | exact trivial | refine ⟨?_, ?_⟩) (slices_Reverse_ok n v19 hx20) ?_
    rintro r0 o0 n0 ⟨rfl, rfl, rfl⟩ -
    refine grd_elim h fun hg21 h => ?_
    refine awl_nil ?_
    refine aw_seq ?_
    refine aw_region ?_
    refine awl_val hτ rfl rfl rfl ?_
    refine awl_val hτ rfl rfl rfl ?_
    refine awl_nil ?_
    refine aw_weak (weak_ofP [0, 1] (l := [(4, .row 1 x20.length 0 x20.length)]) (objs := [.box [.d (.cx .f32 f_.Source.A.re f_.Source.A.im), .d (.cx .f32 f_.Source.B.re f_.Source.B.im), .d (.cx .f32 f_.Source.C.re f_.Source.C.im), .d (.sl false (f_.Buses.map eSBus))], .row 1 (x20.map eInti64)]) rfl (by simp) rfl (by repeat' first | exact trivial | refine ⟨?_, ?_⟩) ⟨(exV_rowL rfl (by simp [hg21])), trivial, trivial⟩) ?_
    refine aw_ret ?_
    have hr := Option.some.inj h
    subst hr
    exact ret_objs (.inr rfl) [1] (objs' := [.box [.d (.cx .f32 f_.Source.A.re f_.Source.A.im), .d (.cx .f32 f_.Source.B.re f_.Source.B.im), .d (.cx .f32 f_.Source.C.re f_.Source.C.im), .d (.sl false (f_.Buses.map eSBus))]]) (new := [.row 1 (x20.map eInti64)]) rfl (by simp) (by simp) rfl (by repeat' first | exact trivial | refine ⟨?_, ?_⟩) rfl rfl (by repeat' first | exact trivial | refine ⟨?_, ?_⟩) (fun h => nomatch h) ⟨rfl, rfl, rfl⟩
  · refine aw_seq ?_
    refine aw_block ?_
    refine aw_loop (ι := Nat × Int × List Int) (fun (m31, v25, v26) => St.of [(0, .ptr 0 0), (1, .d (.int .i64 v25)), (5, .row 1 v26.length 0 v26.length)] [.box [.d (.cx .f32 f_.Source.A.re f_.Source.A.im), .d (.cx .f32 f_.Source.B.re f_.Source.B.im), .d (.cx .f32 f_.Source.C.re f_.Source.C.im), .d (.sl false (f_.Buses.map eSBus))], .row 1 (v26.map eInti64)] f80.ntmps 1) (fun (m31, v25, v26) => m_impl_Feeder_path_l2 n f_ m31 v25 v26 = some r) (fun x => x.1) (n, bus_, ([] : List Int)) h (weak_ofP [0, 1] (l := [(0, .ptr 0 0), (1, .d (.int .i64 bus_)), (5, .row 1 (([] : List Int).length) 0 (([] : List Int).length))]) (objs := [.box [.d (.cx .f32 f_.Source.A.re f_.Source.A.im), .d (.cx .f32 f_.Source.B.re f_.Source.B.im), .d (.cx .f32 f_.Source.C.re f_.Source.C.im), .d (.sl false (f_.Buses.map eSBus))], .row 1 (([] : List Int).map eInti64)]) rfl (by simp) rfl (by repeat' first | exact trivial | refine ⟨?_, ?_⟩) ⟨rfl, trivial, rfl, trivial, rfl, trivial, trivial⟩) ?_
    rintro ⟨m31, v25, v26⟩ h
    replace h : m_impl_Feeder_path_l2 n f_ m31 v25 v26 = some r := h
    rcases m31 with _ | m31
    · rw [m_impl_Feeder_path_l2] at h; cases h
    rw [m_impl_Feeder_path_l2] at h
    refine aw_seq ?_
    refine aw_seq ?_
    refine aw_region ?_
    refine awl_val hτ rfl rfl rfl ?_
    refine awl_val hτ rfl rfl rfl ?_
    refine awl_nil ?_
    refine aw_cond rfl (fun hc33 => ?_) (fun hc33 => ?_)
    · have h := if_t h hc33
      refine aw_skip ?_
      refine aw_seq ?_
      refine aw_block ?_
      refine aw_region ?_
      refine awl_val hτ rfl rfl rfl ?_
      refine awl_val hτ rfl rfl rfl ?_
      refine awl_valH hτ rfl rfl rfl ?_
      refine grd_elim h fun hg34 h => ?_
      refine awl_needH hτ rfl rfl (Eq.trans rfl (or_append (f := eInti64) v26 [v25] rfl)) ⟨⟨rfl, Nat.le_of_ble_eq_true rfl⟩, len_map _, rfl, rfl, hg34, by decide, (all1 rfl)⟩ ?_
      refine awl_val hτ rfl rfl rfl ?_
      refine awl_nil ?_
      refine aw_weak (weak_ofP [0, 1] (l := [(0, .ptr 0 0), (1, .d (.int .i64 v25)), (5, .row 1 ((v26 ++ [v25]).length) 0 ((v26 ++ [v25]).length))]) (objs := [.box [.d (.cx .f32 f_.Source.A.re f_.Source.A.im), .d (.cx .f32 f_.Source.B.re f_.Source.B.im), .d (.cx .f32 f_.Source.C.re f_.Source.C.im), .d (.sl false (f_.Buses.map eSBus))], .row 1 ((v26 ++ [v25]).map eInti64)]) rfl (by simp) rfl (by repeat' first | exact trivial | refine ⟨?_, ?_⟩) ⟨rfl, trivial, rfl, trivial, rfl, trivial, trivial⟩) ?_
      refine aw_region ?_
      refine awl_val hτ rfl rfl rfl ?_
      refine awl_val hτ rfl rfl rfl ?_
      refine awl_val hτ rfl rfl rfl ?_
      refine awl_val hτ rfl rfl rfl ?_
      refine awl_val hτ rfl rfl rfl ?_
      refine bnd_elim h fun x35 hx35 h => ?_
      refine awl_elem hτ rfl rfl rfl (getI_some hx35).1 (map_getI hx35) rfl ?_
      refine awl_val hτ rfl rfl rfl ?_
      refine awl_val hτ rfl rfl rfl ?_
      refine awl_val hτ rfl rfl rfl ?_
      refine awl_nil ?_
      exact ⟨(m31, x35.Parent, (v26 ++ [v25])), h, Nat.lt_succ_self m31, (weak_ofP [0, 1] (l := [(0, .ptr 0 0), (1, .d (.int .i64 x35.Parent)), (5, .row 1 ((v26 ++ [v25]).length) 0 ((v26 ++ [v25]).length))]) (objs := [.box [.d (.cx .f32 f_.Source.A.re f_.Source.A.im), .d (.cx .f32 f_.Source.B.re f_.Source.B.im), .d (.cx .f32 f_.Source.C.re f_.Source.C.im), .d (.sl false (f_.Buses.map eSBus))], .row 1 ((v26 ++ [v25]).map eInti64)]) rfl (by simp) rfl (by repeat' first | exact trivial | refine ⟨?_, ?_⟩) ⟨rfl, trivial, rfl, trivial, rfl, trivial, trivial⟩)⟩
    · have h := if_f h hc33
      refine aw_exit ?_
      refine aw_weak (weak_ofP [0, 1] (l := [(5, .row 1 v26.length 0 v26.length)]) (objs := [.box [.d (.cx .f32 f_.Source.A.re f_.Source.A.im), .d (.cx .f32 f_.Source.B.re f_.Source.B.im), .d (.cx .f32 f_.Source.C.re f_.Source.C.im), .d (.sl false (f_.Buses.map eSBus))], .row 1 (v26.map eInti64)]) rfl (by simp) rfl (by repeat' first | exact trivial | refine ⟨?_, ?_⟩) ⟨rfl, trivial, trivial⟩) ?_
      exact hk22 v26 h

def m_impl_Feeder_impedance_l1 (n : Nat) (f_ : SFeeder) (buses_ : List Int) : Nat → Cx → Cx → Int → Option (Cx × Cx)
  | 0, _, _, _ => none
  | m21 + 1, v13, v14, v15 =>
    if v15 < (buses_.length : Int) then
      (getI buses_ v15).bind fun x24 =>
      (getI f_.Buses x24).bind fun x25 =>
      (m_impl_Feeder_impedance_l1 n f_ buses_ m21) (Cx.mk (farith .add .f32 v13.re x25.Own.re) (farith .add .f32 v13.im x25.Own.im)) (Cx.mk (farith .add .f32 v14.re x25.Shared.re) (farith .add .f32 v14.im x25.Shared.im)) (w64 (v15 + (1 : Int)))
    else
      some (v13, v14)
def m_impl_Feeder_impedance (n : Nat) (f_ : SFeeder) (buses_ : List Int) : Option (Cx × Cx) :=
  m_impl_Feeder_impedance_l1 n f_ buses_ n (Cx.mk (0 : Nat) (0 : Nat)) (Cx.mk (0 : Nat) (0 : Nat)) (0 : Int)
theorem impl_Feeder_impedance_ok (n : Nat) (f_ : SFeeder) (buses_ : List Int) {r : Cx × Cx} (h : m_impl_Feeder_impedance n f_ buses_ = some r) : ACall prog false 90 [.ptr 0 0, .d (.sl false (buses_.map eInti64))] [.box [.d (.cx .f32 f_.Source.A.re f_.Source.A.im), .d (.cx .f32 f_.Source.B.re f_.Source.B.im), .d (.cx .f32 f_.Source.C.re f_.Source.C.im), .d (.sl false (f_.Buses.map eSBus))]] (fun v o new => v = .tup [.d (.cx .f32 r.1.re r.1.im), .d (.cx .f32 r.2.re r.2.im)] ∧ o = [.box [.d (.cx .f32 f_.Source.A.re f_.Source.A.im), .d (.cx .f32 f_.Source.B.re f_.Source.B.im), .d (.cx .f32 f_.Source.C.re f_.Source.C.im), .d (.sl false (f_.Buses.map eSBus))]] ∧ new = []) := by
  refine acall_of_aw hτ func90 rfl (by simp) (by simp) ?_
  unfold m_impl_Feeder_impedance at h
  refine aw_seq ?_
  refine aw_region ?_
  refine awl_val hτ rfl rfl rfl ?_
  refine awl_val hτ rfl rfl rfl ?_
  refine awl_nil ?_
  refine aw_seq ?_
  refine aw_region ?_
  refine awl_val hτ rfl rfl rfl ?_
  refine awl_val hτ rfl rfl rfl ?_
  refine awl_nil ?_
  refine aw_seq ?_
  refine aw_seq ?_
  refine aw_region ?_
  refine awl_val hτ rfl rfl rfl ?_
  refine awl_val hτ (v := .d (.int .i64 (buses_.length : Int))) rfl rfl (Eq.trans rfl (or_len (f := eInti64) buses_)) ?_
  refine awl_val hτ rfl rfl rfl ?_
  refine awl_nil ?_
  refine aw_block ?_
  refine aw_loop (ι := Nat × Cx × Cx × Int) (fun (m21, v13, v14, v15) => St.of [(0, .ptr 0 0), (6, .d (.cx .f32 v13.re v13.im)), (7, .d (.cx .f32 v14.re v14.im)), (10, .d (.sl false (buses_.map eInti64))), (11, .d (.int .i64 (buses_.length : Int))), (12, .d (.int .i64 v15))] [.box [.d (.cx .f32 f_.Source.A.re f_.Source.A.im), .d (.cx .f32 f_.Source.B.re f_.Source.B.im), .d (.cx .f32 f_.Source.C.re f_.Source.C.im), .d (.sl false (f_.Buses.map eSBus))]] f90.ntmps 1) (fun (m21, v13, v14, v15) => m_impl_Feeder_impedance_l1 n f_ buses_ m21 v13 v14 v15 = some r) (fun x => x.1) (n, (Cx.mk (0 : Nat) (0 : Nat)), (Cx.mk (0 : Nat) (0 : Nat)), (0 : Int)) h (weak_ofP [0] (l := [(0, .ptr 0 0), (6, .d (.cx .f32 (0 : Nat) (0 : Nat))), (7, .d (.cx .f32 (0 : Nat) (0 : Nat))), (10, .d (.sl false (buses_.map eInti64))), (11, .d (.int .i64 (buses_.length : Int))), (12, .d (.int .i64 (0 : Int)))]) (objs := [.box [.d (.cx .f32 f_.Source.A.re f_.Source.A.im), .d (.cx .f32 f_.Source.B.re f_.Source.B.im), .d (.cx .f32 f_.Source.C.re f_.Source.C.im), .d (.sl false (f_.Buses.map eSBus))]]) rfl (by simp) rfl (by repeat' first | exact trivial | refine ⟨?_, ?_⟩) ⟨rfl, trivial, rfl, trivial, rfl, trivial, rfl, trivial, rfl, trivial, rfl, trivial, trivial⟩) ?_
  rintro ⟨m21, v13, v14, v15⟩ h
  replace h : m_impl_Feeder_impedance_l1 n f_ buses_ m21 v13 v14 v15 = some r := h
  rcases m21 with _ | m21
  · rw [m_impl_Feeder_impedance_l1] at h; cases h
  rw [m_impl_Feeder_impedance_l1] at h
  refine aw_seq ?_
  refine aw_region ?_
  refine awl_val hτ rfl rfl rfl ?_
  refine awl_nil ?_
  refine aw_seq ?_
  refine aw_cond rfl (fun hc23 => ?_) (fun hc23 => ?_)
  · have h := if_t h hc23
    refine aw_skip ?_
    refine aw_seq ?_
    refine aw_block ?_
    refine aw_seq ?_
    refine aw_region ?_
    refine bnd_elim h fun x24 hx24 h => ?_
    refine awl_elem hτ rfl rfl rfl (getI_some hx24).1 (map_getI hx24) rfl ?_
    refine awl_val hτ rfl rfl rfl ?_
    refine awl_val hτ rfl rfl rfl ?_
    refine awl_nil ?_
    refine aw_seq ?_
    refine aw_region ?_
    refine awl_val hτ rfl rfl rfl ?_
    refine awl_val hτ rfl rfl rfl ?_
    refine awl_val hτ rfl rfl rfl ?_
    refine awl_val hτ rfl rfl rfl ?_
    refine awl_val hτ rfl rfl rfl ?_
    refine awl_val hτ rfl rfl rfl ?_
    refine bnd_elim h fun x25 hx25 h => ?_
    refine awl_elem hτ rfl rfl rfl (getI_some hx25).1 (map_getI hx25) rfl ?_
    refine awl_val hτ rfl rfl rfl ?_
    refine awl_weak (weak_ofP [0] (l := [(0, .ptr 0 0), (6, .d (.cx .f32 v13.re v13.im)), (7, .d (.cx .f32 v14.re v14.im)), (9, .d (.int .i64 x24)), (10, .d (.sl false (buses_.map eInti64))), (11, .d (.int .i64 (buses_.length : Int))), (12, .d (.int .i64 v15)), (16, .d (.cx .f32 v13.re v13.im)), (23, .rop [.int .i64 x25.Parent, .cx .f32 x25.Own.re x25.Own.im, .cx .f32 x25.Shared.re x25.Shared.im, .int .i64 x25.Kind, .cx .f32 x25.Load.A.re x25.Load.A.im, .cx .f32 x25.Load.B.re x25.Load.B.im, .cx .f32 x25.Load.C.re x25.Load.C.im, .int .i64 x25.Customers] 1)]) (objs := [.box [.d (.cx .f32 f_.Source.A.re f_.Source.A.im), .d (.cx .f32 f_.Source.B.re f_.Source.B.im), .d (.cx .f32 f_.Source.C.re f_.Source.C.im), .d (.sl false (f_.Buses.map eSBus))]]) rfl (by simp) rfl (by repeat' first | exact trivial | refine ⟨?_, ?_⟩) ⟨rfl, trivial, rfl, trivial, rfl, trivial, rfl, trivial, rfl, trivial, rfl, trivial, rfl, trivial, rfl, trivial, rfl, trivial, trivial⟩) ?_
    refine awl_val hτ rfl rfl rfl ?_
    refine awl_val hτ rfl rfl rfl ?_
    refine awl_val hτ rfl rfl rfl ?_
    refine awl_nil ?_
    refine aw_region ?_
    refine awl_val hτ rfl rfl rfl ?_
    refine awl_val hτ rfl rfl rfl ?_
    refine awl_val hτ rfl rfl rfl ?_
    refine awl_val hτ rfl rfl rfl ?_
    refine awl_val hτ rfl rfl rfl ?_
    refine awl_val hτ rfl rfl rfl ?_
    refine awl_elem hτ rfl rfl rfl (getI_some hx25).1 (map_getI hx25) rfl ?_
    refine awl_val hτ rfl rfl rfl ?_
    refine awl_val hτ rfl rfl rfl ?_
    refine awl_weak (weak_ofP [0] (l := [(0, .ptr 0 0), (6, .d (.cx .f32 (farith .add .f32 v13.re x25.Own.re) (farith .add .f32 v13.im x25.Own.im))), (7, .d (.cx .f32 v14.re v14.im)), (10, .d (.sl false (buses_.map eInti64))), (11, .d (.int .i64 (buses_.length : Int))), (12, .d (.int .i64 v15)), (26, .d (.cx .f32 v14.re v14.im)), (34, .d (.cx .f32 x25.Shared.re x25.Shared.im))]) (objs := [.box [.d (.cx .f32 f_.Source.A.re f_.Source.A.im), .d (.cx .f32 f_.Source.B.re f_.Source.B.im), .d (.cx .f32 f_.Source.C.re f_.Source.C.im), .d (.sl false (f_.Buses.map eSBus))]]) rfl (by simp) rfl (by repeat' first | exact trivial | refine ⟨?_, ?_⟩) ⟨rfl, trivial, rfl, trivial, rfl, trivial, rfl, trivial, rfl, trivial, rfl, trivial, rfl, trivial, rfl, trivial, trivial⟩) ?_
    refine awl_val hτ rfl rfl rfl ?_
    refine awl_val hτ rfl rfl rfl ?_
    refine awl_nil ?_
    refine aw_region ?_
    refine awl_val hτ rfl rfl rfl ?_
    refine awl_val hτ rfl rfl rfl ?_
    refine awl_nil ?_
    exact ⟨(m21, (Cx.mk (farith .add .f32 v13.re x25.Own.re) (farith .add .f32 v13.im x25.Own.im)), (Cx.mk (farith .add .f32 v14.re x25.Shared.re) (farith .add .f32 v14.im x25.Shared.im)), (w64 (v15 + (1 : Int)))), h, Nat.lt_succ_self m21, (weak_ofP [0] (l := [(0, .ptr 0 0), (6, .d (.cx .f32 (farith .add .f32 v13.re x25.Own.re) (farith .add .f32 v13.im x25.Own.im))), (7, .d (.cx .f32 (farith .add .f32 v14.re x25.Shared.re) (farith .add .f32 v14.im x25.Shared.im))), (10, .d (.sl false (buses_.map eInti64))), (11, .d (.int .i64 (buses_.length : Int))), (12, .d (.int .i64 (w64 (v15 + (1 : Int)))))]) (objs := [.box [.d (.cx .f32 f_.Source.A.re f_.Source.A.im), .d (.cx .f32 f_.Source.B.re f_.Source.B.im), .d (.cx .f32 f_.Source.C.re f_.Source.C.im), .d (.sl false (f_.Buses.map eSBus))]]) rfl (by simp) rfl (by repeat' first | exact trivial | refine ⟨?_, ?_⟩) ⟨rfl, trivial, rfl, trivial, rfl, trivial, rfl, trivial, rfl, trivial, rfl, trivial, trivial⟩)⟩
  · have h := if_f h hc23
    refine aw_exit ?_
    refine aw_seq ?_
    refine aw_region ?_
    refine awl_val hτ rfl rfl rfl ?_
    refine awl_val hτ rfl rfl rfl ?_
    refine awl_val hτ rfl rfl rfl ?_
    refine awl_val hτ rfl rfl rfl ?_
    refine awl_nil ?_
    refine aw_weak (weak_ofP [0] (l := [(4, .d (.cx .f32 v13.re v13.im)), (5, .d (.cx .f32 v14.re v14.im))]) (objs := [.box [.d (.cx .f32 f_.Source.A.re f_.Source.A.im), .d (.cx .f32 f_.Source.B.re f_.Source.B.im), .d (.cx .f32 f_.Source.C.re f_.Source.C.im), .d (.sl false (f_.Buses.map eSBus))]]) rfl (by simp) rfl (by repeat' first | exact trivial | refine ⟨?_, ?_⟩) ⟨rfl, trivial, rfl, trivial, trivial⟩) ?_
    refine aw_ret ?_
    have hr := Option.some.inj h
    subst hr
    exact ret_objs (.inr rfl) [] (objs' := [.box [.d (.cx .f32 f_.Source.A.re f_.Source.A.im), .d (.cx .f32 f_.Source.B.re f_.Source.B.im), .d (.cx .f32 f_.Source.C.re f_.Source.C.im), .d (.sl false (f_.Buses.map eSBus))]]) (new := []) rfl (by simp) (by simp) rfl (by repeat' first | exact trivial | refine ⟨?_, ?_⟩) rfl rfl (by repeat' first | exact trivial | refine ⟨?_, ?_⟩) (fun h => nomatch h) ⟨rfl, rfl, rfl⟩

def m_impl_PathImpedance (n : Nat) (f_ : SFeeder) (bus_ : Int) : Option (Cx × Cx × Bool) :=
  (m_impl_Feeder_has n f_ bus_).bind fun x5 =>
  if x5 = true then
    (m_impl_Feeder_path n f_ bus_).bind fun x7 =>
    (m_impl_Feeder_impedance n f_ x7).bind fun x8 =>
    some (x8.1, x8.2, true)
  else
    some ((Cx.mk (0 : Nat) (0 : Nat)), (Cx.mk (0 : Nat) (0 : Nat)), false)
theorem impl_PathImpedance_ok_fr0 (fr : Bool) (n : Nat) (f_ : SFeeder) (bus_ : Int) {r : Cx × Cx × Bool} (h : m_impl_PathImpedance n f_ bus_ = some r) : ACall prog fr 25 [.agg [.d (.cx .f32 f_.Source.A.re f_.Source.A.im), .d (.cx .f32 f_.Source.B.re f_.Source.B.im), .d (.cx .f32 f_.Source.C.re f_.Source.C.im), .d (.sl false (f_.Buses.map eSBus))], .d (.int .i64 bus_)] [] (fun v o new => v = .tup [.d (.cx .f32 r.1.re r.1.im), .d (.cx .f32 r.2.1.re r.2.1.im), .d (.bool r.2.2)] ∧ o = [] ∧ new = []) := by
  refine acall_of_aw hτ func25 rfl (by simp) (by simp) ?_
  unfold m_impl_PathImpedance at h
  refine aw_seq ?_
  refine aw_region ?_
  refine awl_valH hτ rfl rfl rfl ?_
  refine awl_val hτ rfl rfl rfl ?_
  refine awl_val hτ rfl rfl rfl ?_
  refine awl_val hτ rfl rfl rfl ?_
  refine awl_nil ?_
  refine aw_seq ?_
  refine aw_seq ?_
  refine aw_region ?_
  refine awl_val hτ rfl rfl rfl ?_
  refine bnd_elim h fun x5 hx5 h => ?_
  refine awl_callP hτ false [0] rfl rfl rfl (enterOk func79 rfl rfl) rfl rfl (by simp) ⟨trivial, trivial, trivial⟩ (by repeat' first | exact trivial | refine ⟨?_, ?_⟩) (impl_Feeder_has_ok n f_ bus_ hx5) ?_
  rintro r0 o0 n0 ⟨rfl, rfl, rfl⟩ -
  refine awl_val hτ rfl rfl rfl ?_
  refine awl_nil ?_
  refine aw_weak (weak_ofP [0] (l := [(1, .d (.int .i64 bus_)), (2, .ptr 0 0), (11, .d (.bool (!x5)))]) (objs := [.box [.d (.cx .f32 f_.Source.A.re f_.Source.A.im), .d (.cx .f32 f_.Source.B.re f_.Source.B.im), .d (.cx .f32 f_.Source.C.re f_.Source.C.im), .d (.sl false (f_.Buses.map eSBus))]]) rfl (by simp) rfl (by repeat' first | exact trivial | refine ⟨?_, ?_⟩) ⟨rfl, trivial, rfl, trivial, rfl, trivial, trivial⟩) ?_
  refine aw_cond rfl (fun hc6 => ?_) (fun hc6 => ?_)
  · have hc6 := not_t hc6
    have h := if_bf h hc6
    refine aw_seq ?_
    refine aw_region ?_
    refine awl_val hτ rfl rfl rfl ?_
    refine awl_val hτ rfl rfl rfl ?_
    refine awl_val hτ rfl rfl rfl ?_
    refine awl_nil ?_
    refine aw_weak (weak_ofP [] (l := [(4, .d (.cx .f32 (0 : Nat) (0 : Nat))), (5, .d (.cx .f32 (0 : Nat) (0 : Nat))), (6, .d (.bool false))]) (objs := []) rfl (by simp) rfl (by repeat' first | exact trivial | refine ⟨?_, ?_⟩) ⟨rfl, trivial, rfl, trivial, rfl, trivial, trivial⟩) ?_
    refine aw_ret ?_
    have hr := Option.some.inj h
    subst hr
    exact ret_objs (.inr rfl) [] (objs' := []) (new := []) rfl (by simp) (by simp) rfl (by repeat' first | exact trivial | refine ⟨?_, ?_⟩) rfl rfl (by repeat' first | exact trivial | refine ⟨?_, ?_⟩) (fun _ => ⟨by simp [V.flat, V.flatA, V.flatC, D.flat], flat_nil⟩) ⟨rfl, rfl, rfl⟩
  · have hc6 := not_f hc6
    have h := if_bt h hc6
    refine aw_skip ?_
    refine aw_seq ?_
    refine aw_region ?_
    refine awl_val hτ rfl rfl rfl ?_
    refine bnd_elim h fun x7 hx7 h => ?_
    refine awl_callP hτ false [0] rfl rfl rfl (enterOk func80 rfl rfl) rfl rfl (by simp) ⟨trivial, trivial, trivial⟩ (by repeat' first | exact trivial | refine ⟨?_, ?_⟩) (impl_Feeder_path_ok n f_ bus_ hx7) ?_
    rintro r0 o0 n0 ⟨rfl, rfl, rfl⟩ -
    refine awl_weak (weak_ofP [0] (l := [(2, .ptr 0 0), (14, .d (.sl false (x7.map eInti64)))]) (objs := [.box [.d (.cx .f32 f_.Source.A.re f_.Source.A.im), .d (.cx .f32 f_.Source.B.re f_.Source.B.im), .d (.cx .f32 f_.Source.C.re f_.Source.C.im), .d (.sl false (f_.Buses.map eSBus))]]) rfl (by simp) rfl (by repeat' first | exact trivial | refine ⟨?_, ?_⟩) ⟨rfl, trivial, (exV_view (f := eInti64) x7 rfl rfl rfl), (exVP_view (f := eInti64) x7 rfl rfl rfl), trivial⟩) ?_
    refine bnd_elim h fun x8 hx8 h => ?_
    refine awl_callP hτ false [0] rfl rfl rfl (enterOk func90 rfl rfl) rfl rfl (by simp) ⟨trivial, trivial, trivial⟩ (by repeat' first | exact trivial | refine ⟨?_, ?_⟩) (impl_Feeder_impedance_ok n f_ x7 hx8) ?_
    rintro r0 o0 n0 ⟨rfl, rfl, rfl⟩ -
    refine awl_val hτ rfl rfl rfl ?_
    refine awl_val hτ rfl rfl rfl ?_
    refine awl_val hτ rfl rfl rfl ?_
    refine awl_val hτ rfl rfl rfl ?_
    refine awl_val hτ rfl rfl rfl ?_
    refine awl_nil ?_
    refine aw_seq ?_
    refine aw_weak (weak_ofP [] (l := [(7, .d (.cx .f32 x8.1.re x8.1.im)), (8, .d (.cx .f32 x8.2.re x8.2.im))]) (objs := []) rfl (by simp) rfl (by repeat' first | exact trivial | refine ⟨?_, ?_⟩) ⟨rfl, trivial, rfl, trivial, trivial⟩) ?_
    refine aw_region ?_
    refine awl_val hτ rfl rfl rfl ?_
    refine awl_val hτ rfl rfl rfl ?_
    refine awl_val hτ rfl rfl rfl ?_
    refine awl_val hτ rfl rfl rfl ?_
    refine awl_val hτ rfl rfl rfl ?_
    refine awl_nil ?_
    refine aw_weak (weak_ofP [] (l := [(4, .d (.cx .f32 x8.1.re x8.1.im)), (5, .d (.cx .f32 x8.2.re x8.2.im)), (6, .d (.bool true))]) (objs := []) rfl (by simp) rfl (by repeat' first | exact trivial | refine ⟨?_, ?_⟩) ⟨rfl, trivial, rfl, trivial, rfl, trivial, trivial⟩) ?_
    refine aw_ret ?_
    have hr := Option.some.inj h
    subst hr
    exact ret_objs (.inr rfl) [] (objs' := []) (new := []) rfl (by simp) (by simp) rfl (by repeat' first | exact trivial | refine ⟨?_, ?_⟩) rfl rfl (by repeat' first | exact trivial | refine ⟨?_, ?_⟩) (fun _ => ⟨by simp [V.flat, V.flatA, V.flatC, D.flat], flat_nil⟩) ⟨rfl, rfl, rfl⟩
theorem impl_PathImpedance_ok (n : Nat) (f_ : SFeeder) (bus_ : Int) {r : Cx × Cx × Bool} (h : m_impl_PathImpedance n f_ bus_ = some r) : ACall prog false 25 [.agg [.d (.cx .f32 f_.Source.A.re f_.Source.A.im), .d (.cx .f32 f_.Source.B.re f_.Source.B.im), .d (.cx .f32 f_.Source.C.re f_.Source.C.im), .d (.sl false (f_.Buses.map eSBus))], .d (.int .i64 bus_)] [] (fun v o new => v = .tup [.d (.cx .f32 r.1.re r.1.im), .d (.cx .f32 r.2.1.re r.2.1.im), .d (.bool r.2.2)] ∧ o = [] ∧ new = []) := impl_PathImpedance_ok_fr0 false n f_ bus_ h
theorem impl_PathImpedance_ok_fr (n : Nat) (f_ : SFeeder) (bus_ : Int) {r : Cx × Cx × Bool} (h : m_impl_PathImpedance n f_ bus_ = some r) : ACall prog true 25 [.agg [.d (.cx .f32 f_.Source.A.re f_.Source.A.im), .d (.cx .f32 f_.Source.B.re f_.Source.B.im), .d (.cx .f32 f_.Source.C.re f_.Source.C.im), .d (.sl false (f_.Buses.map eSBus))], .d (.int .i64 bus_)] [] (fun v o new => v = .tup [.d (.cx .f32 r.1.re r.1.im), .d (.cx .f32 r.2.1.re r.2.1.im), .d (.bool r.2.2)] ∧ o = [] ∧ new = []) := impl_PathImpedance_ok_fr0 true n f_ bus_ h

def m_impl_isNaN (n : Nat) (x_ : Nat) : Option Bool :=
  some (fcmp .neq .f32 x_ x_)
theorem impl_isNaN_ok_fr0 (fr : Bool) (n : Nat) (x_ : Nat) {r : Bool} (h : m_impl_isNaN n x_ = some r) : ACall prog fr 147 [.d (.fl .f32 x_)] [] (fun v o new => v = .d (.bool r) ∧ o = [] ∧ new = []) := by
  refine acall_of_aw hτ func147 rfl (by simp) (by simp) ?_
  unfold m_impl_isNaN at h
  refine aw_seq ?_
  refine aw_region ?_
  refine awl_val hτ rfl rfl rfl ?_
  refine awl_nil ?_
  refine aw_seq ?_
  refine aw_region ?_
  refine awl_val hτ rfl rfl rfl ?_
  refine awl_val hτ rfl rfl rfl ?_
  refine awl_val hτ rfl rfl rfl ?_
  refine awl_val hτ rfl rfl rfl ?_
  refine awl_nil ?_
  refine aw_weak (weak_ofP [] (l := [(2, .d (.bool (fcmp .neq .f32 x_ x_)))]) (objs := []) rfl (by simp) rfl (by repeat' first | exact trivial | refine ⟨?_, ?_⟩) ⟨rfl, trivial, trivial⟩) ?_
  refine aw_ret ?_
  have hr := Option.some.inj h
  subst hr
  exact ret_objs (.inr rfl) [] (objs' := []) (new := []) rfl (by simp) (by simp) rfl (by repeat' first | exact trivial | refine ⟨?_, ?_⟩) rfl rfl (by repeat' first | exact trivial | refine ⟨?_, ?_⟩) (fun _ => ⟨by simp [V.flat, V.flatA, V.flatC, D.flat], flat_nil⟩) ⟨rfl, rfl, rfl⟩
theorem impl_isNaN_ok (n : Nat) (x_ : Nat) {r : Bool} (h : m_impl_isNaN n x_ = some r) : ACall prog false 147 [.d (.fl .f32 x_)] [] (fun v o new => v = .d (.bool r) ∧ o = [] ∧ new = []) := impl_isNaN_ok_fr0 false n x_ h
theorem impl_isNaN_ok_fr (n : Nat) (x_ : Nat) {r : Bool} (h : m_impl_isNaN n x_ = some r) : ACall prog true 147 [.d (.fl .f32 x_)] [] (fun v o new => v = .d (.bool r) ∧ o = [] ∧ new = []) := impl_isNaN_ok_fr0 true n x_ h

def m_impl_SameNumber_j1 (n : Nat) (a_ : Nat) (b_ : Nat) : Option Bool :=
  grd (isnan .f32 a_ = false) <|
  grd (isnan .f32 b_ = false) <|
  some (decide ((a_ : Int) = (b_ : Int)))
def m_impl_SameNumber_j2 (n : Nat) (a_ : Nat) (b_ : Nat) (v26 : Bool) : Option Bool :=
  if v26 = true then
    (m_impl_isNaN n a_).bind fun x28 =>
    if x28 = true then
      (m_impl_isNaN n b_).bind fun x30 =>
      some x30
    else
      some false
  else
    m_impl_SameNumber_j1 n a_ b_
def m_impl_SameNumber (n : Nat) (a_ : Nat) (b_ : Nat) : Option Bool :=
  (m_impl_isNaN n a_).bind fun x32 =>
  if x32 = true then
    m_impl_SameNumber_j2 n a_ b_ true
  else
    (m_impl_isNaN n b_).bind fun x34 =>
    m_impl_SameNumber_j2 n a_ b_ x34
theorem impl_SameNumber_ok_fr0 (fr : Bool) (n : Nat) (a_ : Nat) (b_ : Nat) {r : Bool} (h : m_impl_SameNumber n a_ b_ = some r) : ACall prog fr 91 [.d (.fl .f32 a_), .d (.fl .f32 b_)] [] (fun v o new => v = .d (.bool r) ∧ o = [] ∧ new = []) := by
  refine acall_of_aw hτ func91 rfl (by simp) (by simp) ?_
  unfold m_impl_SameNumber at h
  refine aw_seq ?_
  refine aw_region ?_
  refine awl_val hτ rfl rfl rfl ?_
  refine awl_nil ?_
  refine aw_hk1 (ι := Unit) (fun _ => St.of [(0, .d (.fl .f32 a_)), (1, .d (.fl .f32 b_))] [] f91.ntmps 0) (fun _ => m_impl_SameNumber_j1 n a_ b_ = some r) ?_ (fun hk21 => ?_)
  · rintro ⟨⟩ h
    replace h : m_impl_SameNumber_j1 n a_ b_ = some r := h
    unfold m_impl_SameNumber_j1 at h
    refine aw_seq ?_
    refine aw_region ?_
    refine awl_val hτ rfl rfl rfl ?_
    refine grd_elim h fun hg19 h => ?_
    refine awl_ext hτ rfl rfl rfl (ext148 hg19) ?_
    refine awl_val hτ rfl rfl rfl ?_
    refine grd_elim h fun hg20 h => ?_
    refine awl_ext hτ rfl rfl rfl (ext148 hg20) ?_
    refine awl_val hτ (v := .d (.bool (decide ((a_ : Int) = (b_ : Int))))) rfl rfl (or_ieq _ _) ?_
    refine awl_val hτ rfl rfl rfl ?_
    refine awl_nil ?_
    refine aw_weak (weak_ofP [] (l := [(4, .d (.bool (decide ((a_ : Int) = (b_ : Int)))))]) (objs := []) rfl (by simp) rfl (by repeat' first | exact trivial | refine ⟨?_, ?_⟩) ⟨rfl, trivial, trivial⟩) ?_
    refine aw_ret ?_
    have hr := Option.some.inj h
    subst hr
    exact ret_objs (.inr rfl) [] (objs' := []) (new := []) rfl (by simp) (by simp) rfl (by repeat' first | exact trivial | refine ⟨?_, ?_⟩) rfl rfl (by repeat' first | exact trivial | refine ⟨?_, ?_⟩) (fun _ => ⟨by simp [V.flat, V.flatA, V.flatC, D.flat], flat_nil⟩) ⟨rfl, rfl, rfl⟩
  · refine aw_seq ?_
    refine aw_hk1 (ι := Bool) (fun v26 => St.of [(0, .d (.fl .f32 a_)), (1, .d (.fl .f32 b_)), (10, .d (.bool v26))] [] f91.ntmps 0) (fun v26 => m_impl_SameNumber_j2 n a_ b_ v26 = some r) ?_ (fun hk31 => ?_)
    · rintro v26 h
      replace h : m_impl_SameNumber_j2 n a_ b_ v26 = some r := h
      unfold m_impl_SameNumber_j2 at h
      refine aw_cond rfl (fun hc27 => ?_) (fun hc27 => ?_)
      · have h := if_bt h hc27
        refine aw_seq ?_
        refine aw_region ?_
        refine awl_val hτ rfl rfl rfl ?_
        refine bnd_elim h fun x28 hx28 h => ?_
        refine awl_callP hτ false [] rfl rfl rfl (enterOk func147 rfl rfl) rfl rfl (by simp) ⟨trivial, trivial⟩ (by repeat' first | exact trivial | refine ⟨?_, ?_⟩) (impl_isNaN_ok n a_ hx28) ?_
        rintro r0 o0 n0 ⟨rfl, rfl, rfl⟩ -
        refine awl_val hτ rfl rfl rfl ?_
        refine awl_split 13 rfl (fun hb29 => ?_) (fun hb29 => ?_)
        · have h := if_bt h hb29
          refine awl_val hτ rfl rfl rfl ?_
          refine bnd_elim h fun x30 hx30 h => ?_
          refine awl_callP hτ false [] rfl rfl rfl (enterOk func147 rfl rfl) rfl rfl (by simp) ⟨trivial, trivial⟩ (by repeat' first | exact trivial | refine ⟨?_, ?_⟩) (impl_isNaN_ok n b_ hx30) ?_
          rintro r0 o0 n0 ⟨rfl, rfl, rfl⟩ -
          refine awl_val hτ rfl rfl rfl ?_
          refine awl_val hτ rfl rfl rfl ?_
          refine awl_nil ?_
          refine aw_weak (weak_ofP [] (l := [(4, .d (.bool x30))]) (objs := []) rfl (by simp) rfl (by repeat' first | exact trivial | refine ⟨?_, ?_⟩) ⟨rfl, trivial, trivial⟩) ?_
          refine aw_ret ?_
          have hr := Option.some.inj h
          subst hr
          exact ret_objs (.inr rfl) [] (objs' := []) (new := []) rfl (by simp) (by simp) rfl (by repeat' first | exact trivial | refine ⟨?_, ?_⟩) rfl rfl (by repeat' first | exact trivial | refine ⟨?_, ?_⟩) (fun _ => ⟨by simp [V.flat, V.flatA, V.flatC, D.flat], flat_nil⟩) ⟨rfl, rfl, rfl⟩
        · have h := if_bf h hb29
          refine awl_skip rfl rfl ?_
          refine awl_skip rfl rfl ?_
          refine awl_val hτ rfl rfl rfl ?_
          refine awl_val hτ rfl rfl rfl ?_
          refine awl_nil ?_
          refine aw_weak (weak_ofP [] (l := [(4, .d (.bool false))]) (objs := []) rfl (by simp) rfl (by repeat' first | exact trivial | refine ⟨?_, ?_⟩) ⟨rfl, trivial, trivial⟩) ?_
          refine aw_ret ?_
          have hr := Option.some.inj h
          subst hr
          exact ret_objs (.inr rfl) [] (objs' := []) (new := []) rfl (by simp) (by simp) rfl (by repeat' first | exact trivial | refine ⟨?_, ?_⟩) rfl rfl (by repeat' first | exact trivial | refine ⟨?_, ?_⟩) (fun _ => ⟨by simp [V.flat, V.flatA, V.flatC, D.flat], flat_nil⟩) ⟨rfl, rfl, rfl⟩
      · have h := if_bf h hc27
        refine aw_skip ?_
        refine aw_weak (weak_ofP [] (l := [(0, .d (.fl .f32 a_)), (1, .d (.fl .f32 b_))]) (objs := []) rfl (by simp) rfl (by repeat' first | exact trivial | refine ⟨?_, ?_⟩) ⟨rfl, trivial, rfl, trivial, trivial⟩) ?_
        exact hk21 () h
    · refine aw_seq ?_
      refine aw_region ?_
      refine awl_val hτ rfl rfl rfl ?_
      refine bnd_elim h fun x32 hx32 h => ?_
      refine awl_callP hτ false [] rfl rfl rfl (enterOk func147 rfl rfl) rfl rfl (by simp) ⟨trivial, trivial⟩ (by repeat' first | exact trivial | refine ⟨?_, ?_⟩) (impl_isNaN_ok n a_ hx32) ?_
      rintro r0 o0 n0 ⟨rfl, rfl, rfl⟩ -
      refine awl_val hτ rfl rfl rfl ?_
      refine awl_split 7 rfl (fun hb33 => ?_) (fun hb33 => ?_)
      · have h := if_bt h hb33
        refine awl_skip rfl rfl ?_
        refine awl_skip rfl rfl ?_
        refine awl_val hτ rfl rfl rfl ?_
        refine awl_nil ?_
        refine aw_weak (weak_ofP [] (l := [(0, .d (.fl .f32 a_)), (1, .d (.fl .f32 b_)), (10, .d (.bool true))]) (objs := []) rfl (by simp) rfl (by repeat' first | exact trivial | refine ⟨?_, ?_⟩) ⟨rfl, trivial, rfl, trivial, rfl, trivial, trivial⟩) ?_
        exact hk31 true h
      · have h := if_bf h hb33
        refine awl_val hτ rfl rfl rfl ?_
        refine bnd_elim h fun x34 hx34 h => ?_
        refine awl_callP hτ false [] rfl rfl rfl (enterOk func147 rfl rfl) rfl rfl (by simp) ⟨trivial, trivial⟩ (by repeat' first | exact trivial | refine ⟨?_, ?_⟩) (impl_isNaN_ok n b_ hx34) ?_
        rintro r0 o0 n0 ⟨rfl, rfl, rfl⟩ -
        refine awl_val hτ rfl rfl rfl ?_
        refine awl_nil ?_
        refine aw_weak (weak_ofP [] (l := [(0, .d (.fl .f32 a_)), (1, .d (.fl .f32 b_)), (10, .d (.bool x34))]) (objs := []) rfl (by simp) rfl (by repeat' first | exact trivial | refine ⟨?_, ?_⟩) ⟨rfl, trivial, rfl, trivial, rfl, trivial, trivial⟩) ?_
        exact hk31 x34 h
theorem impl_SameNumber_ok (n : Nat) (a_ : Nat) (b_ : Nat) {r : Bool} (h : m_impl_SameNumber n a_ b_ = some r) : ACall prog false 91 [.d (.fl .f32 a_), .d (.fl .f32 b_)] [] (fun v o new => v = .d (.bool r) ∧ o = [] ∧ new = []) := impl_SameNumber_ok_fr0 false n a_ b_ h
theorem impl_SameNumber_ok_fr (n : Nat) (a_ : Nat) (b_ : Nat) {r : Bool} (h : m_impl_SameNumber n a_ b_ = some r) : ACall prog true 91 [.d (.fl .f32 a_), .d (.fl .f32 b_)] [] (fun v o new => v = .d (.bool r) ∧ o = [] ∧ new = []) := impl_SameNumber_ok_fr0 true n a_ b_ h

def m_impl_SameComplex (n : Nat) (a_ : Cx) (b_ : Cx) : Option Bool :=
  (m_impl_SameNumber n a_.re b_.re).bind fun x5 =>
  if x5 = true then
    (m_impl_SameNumber n a_.im b_.im).bind fun x7 =>
    some x7
  else
    some false
theorem impl_SameComplex_ok_fr0 (fr : Bool) (n : Nat) (a_ : Cx) (b_ : Cx) {r : Bool} (h : m_impl_SameComplex n a_ b_ = some r) : ACall prog fr 26 [.d (.cx .f32 a_.re a_.im), .d (.cx .f32 b_.re b_.im)] [] (fun v o new => v = .d (.bool r) ∧ o = [] ∧ new = []) := by
  refine acall_of_aw hτ func26 rfl (by simp) (by simp) ?_
  unfold m_impl_SameComplex at h
  refine aw_seq ?_
  refine aw_region ?_
  refine awl_val hτ rfl rfl rfl ?_
  refine awl_nil ?_
  refine aw_seq ?_
  refine aw_region ?_
  refine awl_val hτ rfl rfl rfl ?_
  refine awl_val hτ rfl rfl rfl ?_
  refine awl_val hτ rfl rfl rfl ?_
  refine awl_val hτ rfl rfl rfl ?_
  refine bnd_elim h fun x5 hx5 h => ?_
  refine awl_callP hτ false [] rfl rfl rfl (enterOk func91 rfl rfl) rfl rfl (by simp) ⟨trivial, trivial, trivial⟩ (by repeat' first | exact trivial | refine ⟨?_, ?_⟩) (impl_SameNumber_ok n a_.re b_.re hx5) ?_
  rintro r0 o0 n0 ⟨rfl, rfl, rfl⟩ -
  refine awl_val hτ rfl rfl rfl ?_
  refine awl_split 10 rfl (fun hb6 => ?_) (fun hb6 => ?_)
  · have h := if_bt h hb6
    refine awl_val hτ rfl rfl rfl ?_
    refine awl_val hτ rfl rfl rfl ?_
    refine awl_val hτ rfl rfl rfl ?_
    refine awl_val hτ rfl rfl rfl ?_
    refine bnd_elim h fun x7 hx7 h => ?_
    refine awl_callP hτ false [] rfl rfl rfl (enterOk func91 rfl rfl) rfl rfl (by simp) ⟨trivial, trivial, trivial⟩ (by repeat' first | exact trivial | refine ⟨?_, ?_⟩) (impl_SameNumber_ok n a_.im b_.im hx7) ?_
    rintro r0 o0 n0 ⟨rfl, rfl, rfl⟩ -
    refine awl_weak (weak_ofP [] (l := [(4, .d (.bool false)), (10, .d (.bool true)), (15, .d (.bool x7))]) (objs := []) rfl (by simp) rfl (by repeat' first | exact trivial | refine ⟨?_, ?_⟩) ⟨rfl, trivial, rfl, trivial, rfl, trivial, trivial⟩) ?_
    refine awl_val hτ rfl rfl rfl ?_
    refine awl_val hτ rfl rfl rfl ?_
    refine awl_nil ?_
    refine aw_weak (weak_ofP [] (l := [(4, .d (.bool x7))]) (objs := []) rfl (by simp) rfl (by repeat' first | exact trivial | refine ⟨?_, ?_⟩) ⟨rfl, trivial, trivial⟩) ?_
    refine aw_ret ?_
    have hr := Option.some.inj h
    subst hr
    exact ret_objs (.inr rfl) [] (objs' := []) (new := []) rfl (by simp) (by simp) rfl (by repeat' first | exact trivial | refine ⟨?_, ?_⟩) rfl rfl (by repeat' first | exact trivial | refine ⟨?_, ?_⟩) (fun _ => ⟨by simp [V.flat, V.flatA, V.flatC, D.flat], flat_nil⟩) ⟨rfl, rfl, rfl⟩
  · have h := if_bf h hb6
    refine awl_skip rfl rfl ?_
    refine awl_skip rfl rfl ?_
    refine awl_skip rfl rfl ?_
    refine awl_skip rfl rfl ?_
    refine awl_skip rfl rfl ?_
    refine awl_weak (weak_ofP [] (l := [(4, .d (.bool false)), (10, .d (.bool false)), (15, .und)]) (objs := []) rfl (by simp) rfl (by repeat' first | exact trivial | refine ⟨?_, ?_⟩) ⟨rfl, trivial, rfl, trivial, rfl, trivial, trivial⟩) ?_
    refine awl_val hτ rfl rfl rfl ?_
    refine awl_val hτ rfl rfl rfl ?_
    refine awl_nil ?_
    refine aw_weak (weak_ofP [] (l := [(4, .d (.bool false))]) (objs := []) rfl (by simp) rfl (by repeat' first | exact trivial | refine ⟨?_, ?_⟩) ⟨rfl, trivial, trivial⟩) ?_
    refine aw_ret ?_
    have hr := Option.some.inj h
    subst hr
    exact ret_objs (.inr rfl) [] (objs' := []) (new := []) rfl (by simp) (by simp) rfl (by repeat' first | exact trivial | refine ⟨?_, ?_⟩) rfl rfl (by repeat' first | exact trivial | refine ⟨?_, ?_⟩) (fun _ => ⟨by simp [V.flat, V.flatA, V.flatC, D.flat], flat_nil⟩) ⟨rfl, rfl, rfl⟩
theorem impl_SameComplex_ok (n : Nat) (a_ : Cx) (b_ : Cx) {r : Bool} (h : m_impl_SameComplex n a_ b_ = some r) : ACall prog false 26 [.d (.cx .f32 a_.re a_.im), .d (.cx .f32 b_.re b_.im)] [] (fun v o new => v = .d (.bool r) ∧ o = [] ∧ new = []) := impl_SameComplex_ok_fr0 false n a_ b_ h
theorem impl_SameComplex_ok_fr (n : Nat) (a_ : Cx) (b_ : Cx) {r : Bool} (h : m_impl_SameComplex n a_ b_ = some r) : ACall prog true 26 [.d (.cx .f32 a_.re a_.im), .d (.cx .f32 b_.re b_.im)] [] (fun v o new => v = .d (.bool r) ∧ o = [] ∧ new = []) := impl_SameComplex_ok_fr0 true n a_ b_ h

end Go.Proofs.Ytkagbffdmppbhaa.AWN
