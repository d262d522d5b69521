/- Models and contracts, printed by program. -/
import Derived.Test.YtkagbffdmppbhabDarkA
set_option linter.unusedVariables false
set_option linter.unusedSimpArgs false
set_option linter.unusedSectionVars false
set_option maxHeartbeats 2000000
namespace Go.Proofs.Ytkagbffdmppbhab.AWN
open Go Go.Proofs.Try

def m_impl_AreOutages_j1 (n : Nat) (f_ : SFeeder) (list_ : List SOutage) : Option Bool :=
  (m_impl_ValidFeeder n f_).bind fun x32 =>
  if x32 = true then
    some (decide ((list_.length : Int) ≤ (16 : Int)))
  else
    some false
def m_impl_AreOutages_j3 (n : Nat) (k50 : Int → Option Bool) (v41 : Int) : Option Bool :=
  k50 (w64 (v41 + (1 : Int)))
def m_impl_AreOutages_j4 (n : Nat) (k50 : Int → Option Bool) (v41 : Int) (v65 : Bool) : Option Bool :=
  if v65 = true then
    some false
  else
    m_impl_AreOutages_j3 n k50 v41
def m_impl_AreOutages_l2 (n : Nat) (f_ : SFeeder) (list_ : List SOutage) : Nat → Int → Option Bool
  | 0, _ => none
  | m49 + 1, v41 =>
    if v41 < (list_.length : Int) then
      (getI list_ v41).bind fun x59 =>
      (m_impl_in n x59.Bus (1 : Int) (w64 ((f_.Buses.length : Int) - (1 : Int)))).bind fun x68 =>
      if x68 = true then
        if x59.From < (0 : Int) then
          m_impl_AreOutages_j4 n (m_impl_AreOutages_l2 n f_ list_ m49) v41 true
        else
          if x59.From ≥ x59.Until then
            m_impl_AreOutages_j4 n (m_impl_AreOutages_l2 n f_ list_ m49) v41 true
          else
            m_impl_AreOutages_j4 n (m_impl_AreOutages_l2 n f_ list_ m49) v41 (decide (x59.Until > (100000 : Int)))
      else
        m_impl_AreOutages_j4 n (m_impl_AreOutages_l2 n f_ list_ m49) v41 true
    else
      m_impl_AreOutages_j1 n f_ list_
def m_impl_AreOutages (n : Nat) (f_ : SFeeder) (list_ : List SOutage) : Option Bool :=
  m_impl_AreOutages_l2 n f_ list_ n (0 : Int)
theorem impl_AreOutages_ok_fr0 (fr : Bool) (n : Nat) (f_ : SFeeder) (list_ : List SOutage) {r : Bool} (h : m_impl_AreOutages n f_ list_ = some r) : ACall prog fr 81 [.agg [.d (.cx .f32 f_.Source.A.re f_.Source.A.im), .d (.cx .f32 f_.Source.B.re f_.Source.B.im), .d (.cx .f32 f_.Source.C.re f_.Source.C.im), .d (.sl false (f_.Buses.map eSBus))], .d (.sl false (list_.map eSOutage))] [] (fun v o new => v = .d (.bool r) ∧ o = [] ∧ new = []) := by
  refine acall_of_aw hτ func81 rfl (by simp) (by simp) ?_
  unfold m_impl_AreOutages at h
  refine aw_seq ?_
  refine aw_region ?_
  refine awl_valH hτ rfl rfl rfl ?_
  refine awl_val hτ rfl rfl rfl ?_
  refine awl_nil ?_
  refine aw_hk1 (ι := Unit) (fun _ => St.of [(1, .d (.sl false (list_.map eSOutage))), (2, .ptr 0 0)] [.box [.d (.cx .f32 f_.Source.A.re f_.Source.A.im), .d (.cx .f32 f_.Source.B.re f_.Source.B.im), .d (.cx .f32 f_.Source.C.re f_.Source.C.im), .d (.sl false (f_.Buses.map eSBus))]] f81.ntmps 0) (fun _ => m_impl_AreOutages_j1 n f_ list_ = some r) ?_ (fun hk34 => ?_)
  · rintro ⟨⟩ h
    replace h : m_impl_AreOutages_j1 n f_ list_ = some r := h
    unfold m_impl_AreOutages_j1 at h
    refine aw_seq ?_
    refine aw_region ?_
    refine awl_val hτ rfl rfl rfl ?_
    refine bnd_elim h fun x32 hx32 h => ?_
    refine awl_callP hτ false [] rfl rfl rfl (enterOk func111 rfl rfl) rfl rfl (by simp) ⟨(by repeat' first | exact trivial | refine ⟨?_, ?_⟩), trivial⟩ (by repeat' first | exact trivial | refine ⟨?_, ?_⟩) (impl_ValidFeeder_ok n f_ hx32) ?_
    rintro r0 o0 n0 ⟨rfl, rfl, rfl⟩ -
    refine awl_val hτ rfl rfl rfl ?_
    refine awl_split 41 rfl (fun hb33 => ?_) (fun hb33 => ?_)
    · have h := if_bt h hb33
      refine awl_val hτ rfl rfl rfl ?_
      refine awl_val hτ (v := .d (.int .i64 (list_.length : Int))) rfl rfl (Eq.trans rfl (or_len (f := eSOutage) list_)) ?_
      refine awl_val hτ rfl rfl rfl ?_
      refine awl_val hτ rfl rfl rfl ?_
      refine awl_val hτ rfl rfl rfl ?_
      refine awl_nil ?_
      refine aw_weak (weak_ofP [] (l := [(4, .d (.bool (decide ((list_.length : Int) ≤ (16 : Int)))))]) (objs := []) rfl (by simp) rfl (by repeat' first | exact trivial | refine ⟨?_, ?_⟩) ⟨rfl, trivial, trivial⟩) ?_
      refine aw_ret ?_
      have hr := Option.some.inj h
      subst hr
      exact ret_objs (.inr rfl) [] (objs' := []) (new := []) rfl (by simp) (by simp) rfl (by repeat' first | exact trivial | refine ⟨?_, ?_⟩) rfl rfl (by repeat' first | exact trivial | refine ⟨?_, ?_⟩) (fun _ => ⟨by simp [V.flat, V.flatA, V.flatC, D.flat], flat_nil⟩) ⟨rfl, rfl, rfl⟩
    · have h := if_bf h hb33
      refine awl_skip rfl rfl ?_
      refine awl_skip rfl rfl ?_
      refine awl_skip rfl rfl ?_
      refine awl_val hτ rfl rfl rfl ?_
      refine awl_val hτ rfl rfl rfl ?_
      refine awl_nil ?_
      refine aw_weak (weak_ofP [] (l := [(4, .d (.bool false))]) (objs := []) rfl (by simp) rfl (by repeat' first | exact trivial | refine ⟨?_, ?_⟩) ⟨rfl, trivial, trivial⟩) ?_
      refine aw_ret ?_
      have hr := Option.some.inj h
      subst hr
      exact ret_objs (.inr rfl) [] (objs' := []) (new := []) rfl (by simp) (by simp) rfl (by repeat' first | exact trivial | refine ⟨?_, ?_⟩) rfl rfl (by repeat' first | exact trivial | refine ⟨?_, ?_⟩) (fun _ => ⟨by simp [V.flat, V.flatA, V.flatC, D.flat], flat_nil⟩) ⟨rfl, rfl, rfl⟩
  · refine aw_seq ?_
    refine aw_seq ?_
    refine aw_region ?_
    refine awl_val hτ rfl rfl rfl ?_
    refine awl_val hτ (v := .d (.int .i64 (list_.length : Int))) rfl rfl (Eq.trans rfl (or_len (f := eSOutage) list_)) ?_
    refine awl_val hτ rfl rfl rfl ?_
    refine awl_nil ?_
    refine aw_block ?_
    refine aw_loop (ι := Nat × Int) (fun (m49, v41) => St.of [(1, .d (.sl false (list_.map eSOutage))), (2, .ptr 0 0), (7, .d (.sl false (list_.map eSOutage))), (8, .d (.int .i64 (list_.length : Int))), (9, .d (.int .i64 v41))] [.box [.d (.cx .f32 f_.Source.A.re f_.Source.A.im), .d (.cx .f32 f_.Source.B.re f_.Source.B.im), .d (.cx .f32 f_.Source.C.re f_.Source.C.im), .d (.sl false (f_.Buses.map eSBus))]] f81.ntmps 0) (fun (m49, v41) => m_impl_AreOutages_l2 n f_ list_ m49 v41 = some r) (fun x => x.1) (n, (0 : Int)) h (weak_ofP [0] (l := [(1, .d (.sl false (list_.map eSOutage))), (2, .ptr 0 0), (7, .d (.sl false (list_.map eSOutage))), (8, .d (.int .i64 (list_.length : Int))), (9, .d (.int .i64 (0 : Int)))]) (objs := [.box [.d (.cx .f32 f_.Source.A.re f_.Source.A.im), .d (.cx .f32 f_.Source.B.re f_.Source.B.im), .d (.cx .f32 f_.Source.C.re f_.Source.C.im), .d (.sl false (f_.Buses.map eSBus))]]) rfl (by simp) rfl (by repeat' first | exact trivial | refine ⟨?_, ?_⟩) ⟨rfl, trivial, rfl, trivial, rfl, trivial, rfl, trivial, rfl, trivial, trivial⟩) ?_
    rintro ⟨m49, v41⟩ h
    replace h : m_impl_AreOutages_l2 n f_ list_ m49 v41 = some r := h
    rcases m49 with _ | m49
    · rw [m_impl_AreOutages_l2] at h; cases h
    rw [m_impl_AreOutages_l2] at h
    refine aw_seq ?_
    refine aw_region ?_
    refine awl_val hτ rfl rfl rfl ?_
    refine awl_nil ?_
    refine aw_seq ?_
    refine aw_cond rfl (fun hc51 => ?_) (fun hc51 => ?_)
    · have h := if_t h hc51
      refine aw_skip ?_
      refine aw_hk1 (ι := Unit) (fun _ => St.of [(1, .d (.sl false (list_.map eSOutage))), (2, .ptr 0 0), (7, .d (.sl false (list_.map eSOutage))), (8, .d (.int .i64 (list_.length : Int))), (9, .d (.int .i64 v41))] [.box [.d (.cx .f32 f_.Source.A.re f_.Source.A.im), .d (.cx .f32 f_.Source.B.re f_.Source.B.im), .d (.cx .f32 f_.Source.C.re f_.Source.C.im), .d (.sl false (f_.Buses.map eSBus))]] f81.ntmps 0) (fun _ => m_impl_AreOutages_j3 n (m_impl_AreOutages_l2 n f_ list_ m49) v41 = some r) ?_ (fun hk58 => ?_)
      · rintro ⟨⟩ h
        replace h : m_impl_AreOutages_j3 n (m_impl_AreOutages_l2 n f_ list_ m49) v41 = some r := h
        unfold m_impl_AreOutages_j3 at h
        refine aw_region ?_
        refine awl_val hτ rfl rfl rfl ?_
        refine awl_val hτ rfl rfl rfl ?_
        refine awl_nil ?_
        exact ⟨(m49, (w64 (v41 + (1 : Int)))), h, Nat.lt_succ_self m49, (weak_ofP [0] (l := [(1, .d (.sl false (list_.map eSOutage))), (2, .ptr 0 0), (7, .d (.sl false (list_.map eSOutage))), (8, .d (.int .i64 (list_.length : Int))), (9, .d (.int .i64 (w64 (v41 + (1 : Int)))))]) (objs := [.box [.d (.cx .f32 f_.Source.A.re f_.Source.A.im), .d (.cx .f32 f_.Source.B.re f_.Source.B.im), .d (.cx .f32 f_.Source.C.re f_.Source.C.im), .d (.sl false (f_.Buses.map eSBus))]]) rfl (by simp) rfl (by repeat' first | exact trivial | refine ⟨?_, ?_⟩) ⟨rfl, trivial, rfl, trivial, rfl, trivial, rfl, trivial, rfl, trivial, trivial⟩)⟩
      · refine aw_seq ?_
        refine aw_block ?_
        refine aw_seq ?_
        refine aw_region ?_
        refine bnd_elim h fun x59 hx59 h => ?_
        refine awl_elem hτ rfl rfl rfl (getI_some hx59).1 (map_getI hx59) rfl ?_
        refine awl_val hτ rfl rfl rfl ?_
        refine awl_valH hτ rfl rfl rfl ?_
        refine awl_valH hτ rfl rfl rfl ?_
        refine awl_nil ?_
        refine aw_hk1 (ι := Bool) (fun v65 => St.of [(1, .d (.sl false (list_.map eSOutage))), (2, .ptr 0 0), (7, .d (.sl false (list_.map eSOutage))), (8, .d (.int .i64 (list_.length : Int))), (9, .d (.int .i64 v41)), (37, .d (.bool v65))] [.box [.d (.cx .f32 f_.Source.A.re f_.Source.A.im), .d (.cx .f32 f_.Source.B.re f_.Source.B.im), .d (.cx .f32 f_.Source.C.re f_.Source.C.im), .d (.sl false (f_.Buses.map eSBus))]] f81.ntmps 0) (fun v65 => m_impl_AreOutages_j4 n (m_impl_AreOutages_l2 n f_ list_ m49) v41 v65 = some r) ?_ (fun hk67 => ?_)
        · rintro v65 h
          replace h : m_impl_AreOutages_j4 n (m_impl_AreOutages_l2 n f_ list_ m49) v41 v65 = some r := h
          unfold m_impl_AreOutages_j4 at h
          refine aw_cond rfl (fun hc66 => ?_) (fun hc66 => ?_)
          · have h := if_bt h hc66
            refine aw_seq ?_
            refine aw_region ?_
            refine awl_val hτ rfl rfl rfl ?_
            refine awl_nil ?_
            refine aw_weak (weak_ofP [] (l := [(4, .d (.bool false))]) (objs := []) rfl (by simp) rfl (by repeat' first | exact trivial | refine ⟨?_, ?_⟩) ⟨rfl, trivial, trivial⟩) ?_
            refine aw_ret ?_
            have hr := Option.some.inj h
            subst hr
            exact ret_objs (.inr rfl) [] (objs' := []) (new := []) rfl (by simp) (by simp) rfl (by repeat' first | exact trivial | refine ⟨?_, ?_⟩) rfl rfl (by repeat' first | exact trivial | refine ⟨?_, ?_⟩) (fun _ => ⟨by simp [V.flat, V.flatA, V.flatC, D.flat], flat_nil⟩) ⟨rfl, rfl, rfl⟩
          · have h := if_bf h hc66
            refine aw_skip ?_
            refine aw_weak (weak_ofP [0] (l := [(1, .d (.sl false (list_.map eSOutage))), (2, .ptr 0 0), (7, .d (.sl false (list_.map eSOutage))), (8, .d (.int .i64 (list_.length : Int))), (9, .d (.int .i64 v41))]) (objs := [.box [.d (.cx .f32 f_.Source.A.re f_.Source.A.im), .d (.cx .f32 f_.Source.B.re f_.Source.B.im), .d (.cx .f32 f_.Source.C.re f_.Source.C.im), .d (.sl false (f_.Buses.map eSBus))]]) rfl (by simp) rfl (by repeat' first | exact trivial | refine ⟨?_, ?_⟩) ⟨rfl, trivial, rfl, trivial, rfl, trivial, rfl, trivial, rfl, trivial, trivial⟩) ?_
            exact hk58 () h
        · refine aw_seq ?_
          refine aw_region ?_
          refine awl_val hτ rfl rfl rfl ?_
          refine awl_val hτ rfl rfl rfl ?_
          refine awl_val hτ rfl rfl rfl ?_
          refine awl_val hτ rfl rfl rfl ?_
          refine awl_val hτ (v := .d (.int .i64 (f_.Buses.length : Int))) rfl rfl (Eq.trans rfl (or_len (f := eSBus) f_.Buses)) ?_
          refine awl_val hτ rfl rfl rfl ?_
          refine bnd_elim h fun x68 hx68 h => ?_
          refine awl_callP hτ false [] rfl rfl rfl (enterOk func109 rfl rfl) rfl rfl (by simp) ⟨trivial, trivial, trivial, trivial⟩ (by repeat' first | exact trivial | refine ⟨?_, ?_⟩) (impl_in_ok n x59.Bus (1 : Int) (w64 ((f_.Buses.length : Int) - (1 : Int))) hx68) ?_
          rintro r0 o0 n0 ⟨rfl, rfl, rfl⟩ -
          refine awl_weak (weak_ofP [0, 1] (l := [(1, .d (.sl false (list_.map eSOutage))), (2, .ptr 0 0), (6, .ptr 1 0), (7, .d (.sl false (list_.map eSOutage))), (8, .d (.int .i64 (list_.length : Int))), (9, .d (.int .i64 v41)), (19, .d (.bool x68))]) (objs := [.box [.d (.cx .f32 f_.Source.A.re f_.Source.A.im), .d (.cx .f32 f_.Source.B.re f_.Source.B.im), .d (.cx .f32 f_.Source.C.re f_.Source.C.im), .d (.sl false (f_.Buses.map eSBus))], .box [.d (.int .i64 x59.Bus), .d (.int .i64 x59.From), .d (.int .i64 x59.Until)]]) rfl (by simp) rfl (by repeat' first | exact trivial | refine ⟨?_, ?_⟩) ⟨rfl, trivial, rfl, trivial, rfl, trivial, rfl, trivial, rfl, trivial, rfl, trivial, rfl, trivial, trivial⟩) ?_
          refine awl_val hτ rfl rfl rfl ?_
          refine awl_val hτ rfl rfl rfl ?_
          refine awl_split 21 rfl (fun hb69 => ?_) (fun hb69 => ?_)
          · have hb69 := not_t hb69
            have h := if_bf h hb69
            refine awl_skip rfl rfl ?_
            refine awl_skip rfl rfl ?_
            refine awl_skip rfl rfl ?_
            refine awl_val hτ rfl rfl rfl ?_
            refine awl_val hτ rfl rfl rfl ?_
            refine awl_skip rfl rfl ?_
            refine awl_skip rfl rfl ?_
            refine awl_skip rfl rfl ?_
            refine awl_skip rfl rfl ?_
            refine awl_skip rfl rfl ?_
            refine awl_weak (weak_ofP [0, 1] (l := [(1, .d (.sl false (list_.map eSOutage))), (2, .ptr 0 0), (6, .ptr 1 0), (7, .d (.sl false (list_.map eSOutage))), (8, .d (.int .i64 (list_.length : Int))), (9, .d (.int .i64 v41)), (26, .d (.bool true)), (31, .und)]) (objs := [.box [.d (.cx .f32 f_.Source.A.re f_.Source.A.im), .d (.cx .f32 f_.Source.B.re f_.Source.B.im), .d (.cx .f32 f_.Source.C.re f_.Source.C.im), .d (.sl false (f_.Buses.map eSBus))], .box [.d (.int .i64 x59.Bus), .d (.int .i64 x59.From), .d (.int .i64 x59.Until)]]) rfl (by simp) rfl (by repeat' first | exact trivial | refine ⟨?_, ?_⟩) ⟨rfl, trivial, rfl, trivial, rfl, trivial, rfl, trivial, rfl, trivial, rfl, trivial, rfl, trivial, rfl, trivial, trivial⟩) ?_
            refine awl_val hτ rfl rfl rfl ?_
            refine awl_val hτ rfl rfl rfl ?_
            refine awl_skip rfl rfl ?_
            refine awl_skip rfl rfl ?_
            refine awl_skip rfl rfl ?_
            refine awl_val hτ rfl rfl rfl ?_
            refine awl_nil ?_
            refine aw_weak (weak_ofP [0] (l := [(1, .d (.sl false (list_.map eSOutage))), (2, .ptr 0 0), (7, .d (.sl false (list_.map eSOutage))), (8, .d (.int .i64 (list_.length : Int))), (9, .d (.int .i64 v41)), (37, .d (.bool true))]) (objs := [.box [.d (.cx .f32 f_.Source.A.re f_.Source.A.im), .d (.cx .f32 f_.Source.B.re f_.Source.B.im), .d (.cx .f32 f_.Source.C.re f_.Source.C.im), .d (.sl false (f_.Buses.map eSBus))]]) rfl (by simp) rfl (by repeat' first | exact trivial | refine ⟨?_, ?_⟩) ⟨rfl, trivial, rfl, trivial, rfl, trivial, rfl, trivial, rfl, trivial, rfl, trivial, trivial⟩) ?_
            exact hk67 true h
          · have hb69 := not_f hb69
            have h := if_bt h hb69
            refine awl_val hτ rfl rfl rfl ?_
            refine awl_val hτ rfl rfl rfl ?_
            refine awl_val hτ rfl rfl rfl ?_
            refine awl_val hτ rfl rfl rfl ?_
            refine awl_val hτ rfl rfl rfl ?_
            refine awl_split 26 rfl (fun hb70 => ?_) (fun hb70 => ?_)
            · have h := if_t h hb70
              refine awl_skip rfl rfl ?_
              refine awl_skip rfl rfl ?_
              refine awl_skip rfl rfl ?_
              refine awl_skip rfl rfl ?_
              refine awl_skip rfl rfl ?_
              refine awl_weak (weak_ofP [0, 1] (l := [(1, .d (.sl false (list_.map eSOutage))), (2, .ptr 0 0), (6, .ptr 1 0), (7, .d (.sl false (list_.map eSOutage))), (8, .d (.int .i64 (list_.length : Int))), (9, .d (.int .i64 v41)), (26, .d (.bool true)), (31, .und)]) (objs := [.box [.d (.cx .f32 f_.Source.A.re f_.Source.A.im), .d (.cx .f32 f_.Source.B.re f_.Source.B.im), .d (.cx .f32 f_.Source.C.re f_.Source.C.im), .d (.sl false (f_.Buses.map eSBus))], .box [.d (.int .i64 x59.Bus), .d (.int .i64 x59.From), .d (.int .i64 x59.Until)]]) rfl (by simp) rfl (by repeat' first | exact trivial | refine ⟨?_, ?_⟩) ⟨rfl, trivial, rfl, trivial, rfl, trivial, rfl, trivial, rfl, trivial, rfl, trivial, rfl, trivial, rfl, trivial, trivial⟩) ?_
              refine awl_val hτ rfl rfl rfl ?_
              refine awl_val hτ rfl rfl rfl ?_
              refine awl_skip rfl rfl ?_
              refine awl_skip rfl rfl ?_
              refine awl_skip rfl rfl ?_
              refine awl_val hτ rfl rfl rfl ?_
              refine awl_nil ?_
              refine aw_weak (weak_ofP [0] (l := [(1, .d (.sl false (list_.map eSOutage))), (2, .ptr 0 0), (7, .d (.sl false (list_.map eSOutage))), (8, .d (.int .i64 (list_.length : Int))), (9, .d (.int .i64 v41)), (37, .d (.bool true))]) (objs := [.box [.d (.cx .f32 f_.Source.A.re f_.Source.A.im), .d (.cx .f32 f_.Source.B.re f_.Source.B.im), .d (.cx .f32 f_.Source.C.re f_.Source.C.im), .d (.sl false (f_.Buses.map eSBus))]]) rfl (by simp) rfl (by repeat' first | exact trivial | refine ⟨?_, ?_⟩) ⟨rfl, trivial, rfl, trivial, rfl, trivial, rfl, trivial, rfl, trivial, rfl, trivial, trivial⟩) ?_
              exact hk67 true h
            · have h := if_f h hb70
              refine awl_val hτ rfl rfl rfl ?_
              refine awl_val hτ rfl rfl rfl ?_
              refine awl_val hτ rfl rfl rfl ?_
              refine awl_val hτ rfl rfl rfl ?_
              refine awl_val hτ rfl rfl rfl ?_
              refine awl_weak (weak_ofP [0, 1] (l := [(1, .d (.sl false (list_.map eSOutage))), (2, .ptr 0 0), (6, .ptr 1 0), (7, .d (.sl false (list_.map eSOutage))), (8, .d (.int .i64 (list_.length : Int))), (9, .d (.int .i64 v41)), (26, .d (.bool false)), (31, .d (.bool (decide (x59.From ≥ x59.Until))))]) (objs := [.box [.d (.cx .f32 f_.Source.A.re f_.Source.A.im), .d (.cx .f32 f_.Source.B.re f_.Source.B.im), .d (.cx .f32 f_.Source.C.re f_.Source.C.im), .d (.sl false (f_.Buses.map eSBus))], .box [.d (.int .i64 x59.Bus), .d (.int .i64 x59.From), .d (.int .i64 x59.Until)]]) rfl (by simp) rfl (by repeat' first | exact trivial | refine ⟨?_, ?_⟩) ⟨rfl, trivial, rfl, trivial, rfl, trivial, rfl, trivial, rfl, trivial, rfl, trivial, rfl, trivial, rfl, trivial, trivial⟩) ?_
              refine awl_val hτ rfl rfl rfl ?_
              refine awl_val hτ rfl rfl rfl ?_
              refine awl_split 33 rfl (fun hb71 => ?_) (fun hb71 => ?_)
              · have h := if_t h hb71
                refine awl_skip rfl rfl ?_
                refine awl_skip rfl rfl ?_
                refine awl_skip rfl rfl ?_
                refine awl_val hτ rfl rfl rfl ?_
                refine awl_nil ?_
                refine aw_weak (weak_ofP [0] (l := [(1, .d (.sl false (list_.map eSOutage))), (2, .ptr 0 0), (7, .d (.sl false (list_.map eSOutage))), (8, .d (.int .i64 (list_.length : Int))), (9, .d (.int .i64 v41)), (37, .d (.bool true))]) (objs := [.box [.d (.cx .f32 f_.Source.A.re f_.Source.A.im), .d (.cx .f32 f_.Source.B.re f_.Source.B.im), .d (.cx .f32 f_.Source.C.re f_.Source.C.im), .d (.sl false (f_.Buses.map eSBus))]]) rfl (by simp) rfl (by repeat' first | exact trivial | refine ⟨?_, ?_⟩) ⟨rfl, trivial, rfl, trivial, rfl, trivial, rfl, trivial, rfl, trivial, rfl, trivial, trivial⟩) ?_
                exact hk67 true h
              · have h := if_f h hb71
                refine awl_val hτ rfl rfl rfl ?_
                refine awl_val hτ rfl rfl rfl ?_
                refine awl_val hτ rfl rfl rfl ?_
                refine awl_val hτ rfl rfl rfl ?_
                refine awl_nil ?_
                refine aw_weak (weak_ofP [0] (l := [(1, .d (.sl false (list_.map eSOutage))), (2, .ptr 0 0), (7, .d (.sl false (list_.map eSOutage))), (8, .d (.int .i64 (list_.length : Int))), (9, .d (.int .i64 v41)), (37, .d (.bool (decide (x59.Until > (100000 : Int)))))]) (objs := [.box [.d (.cx .f32 f_.Source.A.re f_.Source.A.im), .d (.cx .f32 f_.Source.B.re f_.Source.B.im), .d (.cx .f32 f_.Source.C.re f_.Source.C.im), .d (.sl false (f_.Buses.map eSBus))]]) rfl (by simp) rfl (by repeat' first | exact trivial | refine ⟨?_, ?_⟩) ⟨rfl, trivial, rfl, trivial, rfl, trivial, rfl, trivial, rfl, trivial, rfl, trivial, trivial⟩) ?_
                exact hk67 (decide (x59.Until > (100000 : Int))) h
    · have h := if_f h hc51
      refine aw_exit ?_
      refine aw_weak (weak_ofP [0] (l := [(1, .d (.sl false (list_.map eSOutage))), (2, .ptr 0 0)]) (objs := [.box [.d (.cx .f32 f_.Source.A.re f_.Source.A.im), .d (.cx .f32 f_.Source.B.re f_.Source.B.im), .d (.cx .f32 f_.Source.C.re f_.Source.C.im), .d (.sl false (f_.Buses.map eSBus))]]) rfl (by simp) rfl (by repeat' first | exact trivial | refine ⟨?_, ?_⟩) ⟨rfl, trivial, rfl, trivial, trivial⟩) ?_
      exact hk34 () h
theorem impl_AreOutages_ok (n : Nat) (f_ : SFeeder) (list_ : List SOutage) {r : Bool} (h : m_impl_AreOutages n f_ list_ = some r) : ACall prog false 81 [.agg [.d (.cx .f32 f_.Source.A.re f_.Source.A.im), .d (.cx .f32 f_.Source.B.re f_.Source.B.im), .d (.cx .f32 f_.Source.C.re f_.Source.C.im), .d (.sl false (f_.Buses.map eSBus))], .d (.sl false (list_.map eSOutage))] [] (fun v o new => v = .d (.bool r) ∧ o = [] ∧ new = []) := impl_AreOutages_ok_fr0 false n f_ list_ h
theorem impl_AreOutages_ok_fr (n : Nat) (f_ : SFeeder) (list_ : List SOutage) {r : Bool} (h : m_impl_AreOutages n f_ list_ = some r) : ACall prog true 81 [.agg [.d (.cx .f32 f_.Source.A.re f_.Source.A.im), .d (.cx .f32 f_.Source.B.re f_.Source.B.im), .d (.cx .f32 f_.Source.C.re f_.Source.C.im), .d (.sl false (f_.Buses.map eSBus))], .d (.sl false (list_.map eSOutage))] [] (fun v o new => v = .d (.bool r) ∧ o = [] ∧ new = []) := impl_AreOutages_ok_fr0 true n f_ list_ h

def m_slices_Reverse_l1 (n : Nat) : Nat → List Int → Int → Int → Option (List Int)
  | 0, _, _, _ => none
  | m25 + 1, v16, v17, v18 =>
    if v17 < v18 then
      (getI v16 v18).bind fun x28 =>
      (getI v16 v17).bind fun x29 =>
      (getI (v16.set v17.toNat x28) v18).bind fun x30 =>
      (m_slices_Reverse_l1 n m25) ((v16.set v17.toNat x28).set v18.toNat x29) (w64 (v17 + (1 : Int))) (w64 (v18 - (1 : Int)))
    else
      some v16
def m_slices_Reverse (n : Nat) (s_ : List Int) : Option (List Int) :=
  m_slices_Reverse_l1 n n s_ (0 : Int) (w64 ((s_.length : Int) - (1 : Int)))
theorem slices_Reverse_ok_fr0 (fr : Bool) (n : Nat) (s_ : List Int) {r : List Int} (h : m_slices_Reverse n s_ = some r) : ACall prog fr 235 [.row 0 s_.length 0 s_.length] [.row 1 (s_.map eInti64)] (fun v o new => v = .tup [] ∧ o = [.row 1 (r.map eInti64)] ∧ new = []) := by
  refine acall_of_aw hτ func235 rfl (by simp) (by simp) ?_
  unfold m_slices_Reverse at h
  refine aw_seq ?_
  refine aw_region ?_
  refine awl_val hτ rfl rfl rfl ?_
  refine awl_need hτ rfl rfl rfl (len_map _) ?_
  refine awl_val hτ rfl rfl rfl ?_
  refine awl_val hτ rfl rfl rfl ?_
  refine awl_val hτ rfl rfl rfl ?_
  refine awl_nil ?_
  refine aw_block ?_
  refine aw_loop (ι := Nat × List Int × Int × Int) (fun (m25, v16, v17, v18) => St.of [(0, .row 0 v16.length 0 v16.length), (2, .d (.int .i64 v17)), (3, .d (.int .i64 v18))] [.row 1 (v16.map eInti64)] f235.ntmps 1) (fun (m25, v16, v17, v18) => m_slices_Reverse_l1 n m25 v16 v17 v18 = some r) (fun x => x.1) (n, s_, (0 : Int), (w64 ((s_.length : Int) - (1 : Int)))) h (weak_ofP [0] (l := [(0, .row 0 s_.length 0 s_.length), (2, .d (.int .i64 (0 : Int))), (3, .d (.int .i64 (w64 ((s_.length : Int) - (1 : Int)))))]) (objs := [.row 1 (s_.map eInti64)]) rfl (by simp) rfl (by repeat' first | exact trivial | refine ⟨?_, ?_⟩) ⟨rfl, trivial, rfl, trivial, rfl, trivial, trivial⟩) ?_
  rintro ⟨m25, v16, v17, v18⟩ h
  replace h : m_slices_Reverse_l1 n m25 v16 v17 v18 = some r := h
  rcases m25 with _ | m25
  · rw [m_slices_Reverse_l1] at h; cases h
  rw [m_slices_Reverse_l1] at h
  refine aw_seq ?_
  refine aw_seq ?_
  refine aw_region ?_
  refine awl_val hτ rfl rfl rfl ?_
  refine awl_val hτ rfl rfl rfl ?_
  refine awl_val hτ rfl rfl rfl ?_
  refine awl_nil ?_
  refine aw_cond rfl (fun hc27 => ?_) (fun hc27 => ?_)
  · have h := if_t h hc27
    refine aw_skip ?_
    refine aw_seq ?_
    refine aw_block ?_
    refine any_start ?_
    refine any_val hτ [] 0 rfl rfl rfl rfl rfl ?_
    refine any_val hτ [] 1 rfl rfl rfl rfl rfl ?_
    refine any_val hτ [] 2 rfl rfl rfl rfl rfl ?_
    refine any_val hτ [] 3 rfl rfl rfl rfl rfl ?_
    refine any_val hτ [] 4 rfl rfl rfl rfl rfl ?_
    refine any_val hτ [] 5 rfl rfl rfl rfl rfl ?_
    refine bnd_elim h fun x28 hx28 h => ?_
    refine any_need hτ [0] 6 rfl rfl rfl rfl rfl (row_need hx28) ?_
    refine any_elem hτ [0] 7 rfl rfl rfl rfl rfl (len_map _) (row_get hx28) rfl ?_
    refine any_val hτ [] 8 rfl rfl rfl rfl rfl ?_
    refine any_val hτ [] 9 rfl rfl rfl rfl rfl ?_
    refine bnd_elim h fun x29 hx29 h => ?_
    refine any_need hτ [0] 10 rfl rfl rfl rfl rfl (row_need hx29) ?_
    refine any_elem hτ [0] 11 rfl rfl rfl rfl rfl (len_map _) (row_get hx29) rfl ?_
    refine any_need hτ [0] 12 rfl rfl rfl rfl rfl (row_need hx29) ?_
    refine any_elemHP hτ [] 13 rfl rfl rfl rfl (len_map _) (row_get hx29) (set_val (f := eInti64) (l := v16) (i := v17) (y := x28) rfl) trivial ?_
    refine bnd_elim h fun x30 hx30 h => ?_
    refine any_need hτ [0] 14 rfl rfl rfl rfl rfl (row_needL hx30 (by simp)) ?_
    refine any_elemHP hτ [] 15 rfl rfl rfl rfl (by simp) (row_get hx30) (set_val (f := eInti64) (l := (v16.set v17.toNat x28)) (i := v18) (y := x29) rfl) trivial ?_
    refine any_done mixed (by kernel_rfl) ?_
    refine aw_weak (weak_ofP [0] (l := [(0, .row 0 (((v16.set v17.toNat x28).set v18.toNat x29).length) 0 (((v16.set v17.toNat x28).set v18.toNat x29).length)), (2, .d (.int .i64 v17)), (3, .d (.int .i64 v18))]) (objs := [.row 1 (((v16.set v17.toNat x28).set v18.toNat x29).map eInti64)]) rfl (by simp) rfl (by repeat' first | exact trivial | refine ⟨?_, ?_⟩) ⟨(exV_rowL rfl (by simp)), trivial, rfl, trivial, rfl, trivial, trivial⟩) ?_
    refine aw_region ?_
    refine awl_val hτ rfl rfl rfl ?_
    refine awl_val hτ rfl rfl rfl ?_
    refine awl_val hτ rfl rfl rfl ?_
    refine awl_val hτ rfl rfl rfl ?_
    refine awl_val hτ rfl rfl rfl ?_
    refine awl_val hτ rfl rfl rfl ?_
    refine awl_nil ?_
    exact ⟨(m25, ((v16.set v17.toNat x28).set v18.toNat x29), (w64 (v17 + (1 : Int))), (w64 (v18 - (1 : Int)))), h, Nat.lt_succ_self m25, (weak_ofP [0] (l := [(0, .row 0 (((v16.set v17.toNat x28).set v18.toNat x29).length) 0 (((v16.set v17.toNat x28).set v18.toNat x29).length)), (2, .d (.int .i64 (w64 (v17 + (1 : Int))))), (3, .d (.int .i64 (w64 (v18 - (1 : Int)))))]) (objs := [.row 1 (((v16.set v17.toNat x28).set v18.toNat x29).map eInti64)]) rfl (by simp) rfl (by repeat' first | exact trivial | refine ⟨?_, ?_⟩) ⟨rfl, trivial, rfl, trivial, rfl, trivial, trivial⟩)⟩
  · have h := if_f h hc27
    refine aw_exit ?_
    have hr := Option.some.inj h
    subst hr
    exact ret_objs (.inl rfl) [] (objs' := [.row 1 (v16.map eInti64)]) (new := []) rfl (by simp) (by simp) rfl (by repeat' first | exact trivial | refine ⟨?_, ?_⟩) rfl rfl (by repeat' first | exact trivial | refine ⟨?_, ?_⟩) (fun _ => ⟨by simp [V.flat, V.flatA, V.flatC, D.flat], (flat_cons (flat_row eInti64_flat _) flat_nil)⟩) ⟨rfl, rfl, rfl⟩
theorem slices_Reverse_ok (n : Nat) (s_ : List Int) {r : List Int} (h : m_slices_Reverse n s_ = some r) : ACall prog false 235 [.row 0 s_.length 0 s_.length] [.row 1 (s_.map eInti64)] (fun v o new => v = .tup [] ∧ o = [.row 1 (r.map eInti64)] ∧ new = []) := slices_Reverse_ok_fr0 false n s_ h
theorem slices_Reverse_ok_fr (n : Nat) (s_ : List Int) {r : List Int} (h : m_slices_Reverse n s_ = some r) : ACall prog true 235 [.row 0 s_.length 0 s_.length] [.row 1 (s_.map eInti64)] (fun v o new => v = .tup [] ∧ o = [.row 1 (r.map eInti64)] ∧ new = []) := slices_Reverse_ok_fr0 true n s_ h

def m_impl_Feeder_path_j1 (n : Nat) (v19 : List Int) : Option (List Int) :=
  (m_slices_Reverse n v19).bind fun x20 =>
  grd (x20.length = v19.length) <|
  some x20
def m_impl_Feeder_path_l2 (n : Nat) (f_ : SFeeder) : Nat → Int → List Int → Option (List Int)
  | 0, _, _ => none
  | m31 + 1, v25, v26 =>
    if v25 ≥ (0 : Int) then
      grd (room (v26.length + 1) 8) <|
      (getI f_.Buses v25).bind fun x35 =>
      (m_impl_Feeder_path_l2 n f_ m31) x35.Parent (v26 ++ [v25])
    else
      m_impl_Feeder_path_j1 n v26
def m_impl_Feeder_path (n : Nat) (f_ : SFeeder) (bus_ : Int) : Option (List Int) :=
  m_impl_Feeder_path_l2 n f_ n bus_ ([] : List Int)
theorem impl_Feeder_path_ok (n : Nat) (f_ : SFeeder) (bus_ : Int) {r : List Int} (h : m_impl_Feeder_path n f_ bus_ = some r) : ACall prog false 129 [.ptr 0 0, .d (.int .i64 bus_)] [.box [.d (.cx .f32 f_.Source.A.re f_.Source.A.im), .d (.cx .f32 f_.Source.B.re f_.Source.B.im), .d (.cx .f32 f_.Source.C.re f_.Source.C.im), .d (.sl false (f_.Buses.map eSBus))]] (fun v o new => v = .row 1 r.length 0 r.length ∧ o = [.box [.d (.cx .f32 f_.Source.A.re f_.Source.A.im), .d (.cx .f32 f_.Source.B.re f_.Source.B.im), .d (.cx .f32 f_.Source.C.re f_.Source.C.im), .d (.sl false (f_.Buses.map eSBus))]] ∧ new = [.row 1 (r.map eInti64)]) := by
  refine acall_of_aw hτ func129 rfl (by simp) (by simp) ?_
  unfold m_impl_Feeder_path at h
  refine aw_seq ?_
  refine aw_region ?_
  refine awl_val hτ rfl rfl rfl ?_
  refine awl_nil ?_
  refine aw_seq ?_
  refine aw_region ?_
  refine awl_valH hτ rfl rfl rfl ?_
  refine awl_val hτ rfl rfl rfl ?_
  refine awl_nil ?_
  refine aw_hk1 (ι := List Int) (fun v19 => St.of [(5, .row 1 v19.length 0 v19.length)] [.box [.d (.cx .f32 f_.Source.A.re f_.Source.A.im), .d (.cx .f32 f_.Source.B.re f_.Source.B.im), .d (.cx .f32 f_.Source.C.re f_.Source.C.im), .d (.sl false (f_.Buses.map eSBus))], .row 1 (v19.map eInti64)] f129.ntmps 1) (fun v19 => m_impl_Feeder_path_j1 n v19 = some r) ?_ (fun hk22 => ?_)
  · rintro v19 h
    replace h : m_impl_Feeder_path_j1 n v19 = some r := h
    unfold m_impl_Feeder_path_j1 at h
    refine aw_seq ?_
    refine aw_region ?_
    refine awl_val hτ rfl rfl rfl ?_
    refine bnd_elim h fun x20 hx20 h => ?_
    refine awl_callP hτ false [1] rfl rfl rfl (enterOk func235 rfl rfl) rfl rfl (by simp) ⟨trivial, trivial⟩ (by repeat' first | exact trivial | refine ⟨?_, ?_⟩) (slices_Reverse_ok n v19 hx20) ?_
    rintro r0 o0 n0 ⟨rfl, rfl, rfl⟩ -
    refine grd_elim h fun hg21 h => ?_
    refine awl_nil ?_
    refine aw_seq ?_
    refine aw_region ?_
    refine awl_val hτ rfl rfl rfl ?_
    refine awl_val hτ rfl rfl rfl ?_
    refine awl_nil ?_
    refine aw_weak (weak_ofP [0, 1] (l := [(4, .row 1 x20.length 0 x20.length)]) (objs := [.box [.d (.cx .f32 f_.Source.A.re f_.Source.A.im), .d (.cx .f32 f_.Source.B.re f_.Source.B.im), .d (.cx .f32 f_.Source.C.re f_.Source.C.im), .d (.sl false (f_.Buses.map eSBus))], .row 1 (x20.map eInti64)]) rfl (by simp) rfl (by repeat' first | exact trivial | refine ⟨?_, ?_⟩) ⟨(exV_rowL rfl (by simp [hg21])), trivial, trivial⟩) ?_
    refine aw_ret ?_
    have hr := Option.some.inj h
    subst hr
    exact ret_objs (.inr rfl) [1] (objs' := [.box [.d (.cx .f32 f_.Source.A.re f_.Source.A.im), .d (.cx .f32 f_.Source.B.re f_.Source.B.im), .d (.cx .f32 f_.Source.C.re f_.Source.C.im), .d (.sl false (f_.Buses.map eSBus))]]) (new := [.row 1 (x20.map eInti64)]) rfl (by simp) (by simp) rfl (by repeat' first | exact trivial | refine ⟨?_, ?_⟩) rfl rfl (by repeat' first | exact trivial | refine ⟨?_, ?_⟩) (fun h => nomatch h) ⟨rfl, rfl, rfl⟩
  · refine aw_seq ?_
    refine aw_block ?_
    refine aw_loop (ι := Nat × Int × List Int) (fun (m31, v25, v26) => St.of [(0, .ptr 0 0), (1, .d (.int .i64 v25)), (5, .row 1 v26.length 0 v26.length)] [.box [.d (.cx .f32 f_.Source.A.re f_.Source.A.im), .d (.cx .f32 f_.Source.B.re f_.Source.B.im), .d (.cx .f32 f_.Source.C.re f_.Source.C.im), .d (.sl false (f_.Buses.map eSBus))], .row 1 (v26.map eInti64)] f129.ntmps 1) (fun (m31, v25, v26) => m_impl_Feeder_path_l2 n f_ m31 v25 v26 = some r) (fun x => x.1) (n, bus_, ([] : List Int)) h (weak_ofP [0, 1] (l := [(0, .ptr 0 0), (1, .d (.int .i64 bus_)), (5, .row 1 (([] : List Int).length) 0 (([] : List Int).length))]) (objs := [.box [.d (.cx .f32 f_.Source.A.re f_.Source.A.im), .d (.cx .f32 f_.Source.B.re f_.Source.B.im), .d (.cx .f32 f_.Source.C.re f_.Source.C.im), .d (.sl false (f_.Buses.map eSBus))], .row 1 (([] : List Int).map eInti64)]) rfl (by simp) rfl (by repeat' first | exact trivial | refine ⟨?_, ?_⟩) ⟨rfl, trivial, rfl, trivial, rfl, trivial, trivial⟩) ?_
    rintro ⟨m31, v25, v26⟩ h
    replace h : m_impl_Feeder_path_l2 n f_ m31 v25 v26 = some r := h
    rcases m31 with _ | m31
    · rw [m_impl_Feeder_path_l2] at h; cases h
    rw [m_impl_Feeder_path_l2] at h
    refine aw_seq ?_
    refine aw_seq ?_
    refine aw_region ?_
    refine awl_val hτ rfl rfl rfl ?_
    refine awl_val hτ rfl rfl rfl ?_
    refine awl_nil ?_
    refine aw_cond rfl (fun hc33 => ?_) (fun hc33 => ?_)
    · have h := if_t h hc33
      refine aw_skip ?_
      refine aw_seq ?_
      refine aw_block ?_
      refine aw_region ?_
      refine awl_val hτ rfl rfl rfl ?_
      refine awl_val hτ rfl rfl rfl ?_
      refine awl_valH hτ rfl rfl rfl ?_
      refine grd_elim h fun hg34 h => ?_
      refine awl_needH hτ rfl rfl (Eq.trans rfl (or_append (f := eInti64) v26 [v25] rfl)) ⟨⟨rfl, Nat.le_of_ble_eq_true rfl⟩, len_map _, rfl, rfl, hg34, by decide, (all1 rfl)⟩ ?_
      refine awl_val hτ rfl rfl rfl ?_
      refine awl_nil ?_
      refine aw_weak (weak_ofP [0, 1] (l := [(0, .ptr 0 0), (1, .d (.int .i64 v25)), (5, .row 1 ((v26 ++ [v25]).length) 0 ((v26 ++ [v25]).length))]) (objs := [.box [.d (.cx .f32 f_.Source.A.re f_.Source.A.im), .d (.cx .f32 f_.Source.B.re f_.Source.B.im), .d (.cx .f32 f_.Source.C.re f_.Source.C.im), .d (.sl false (f_.Buses.map eSBus))], .row 1 ((v26 ++ [v25]).map eInti64)]) rfl (by simp) rfl (by repeat' first | exact trivial | refine ⟨?_, ?_⟩) ⟨rfl, trivial, rfl, trivial, rfl, trivial, trivial⟩) ?_
      refine aw_region ?_
      refine awl_val hτ rfl rfl rfl ?_
      refine awl_val hτ rfl rfl rfl ?_
      refine awl_val hτ rfl rfl rfl ?_
      refine awl_val hτ rfl rfl rfl ?_
      refine awl_val hτ rfl rfl rfl ?_
      refine bnd_elim h fun x35 hx35 h => ?_
      refine awl_elem hτ rfl rfl rfl (getI_some hx35).1 (map_getI hx35) rfl ?_
      refine awl_val hτ rfl rfl rfl ?_
      refine awl_val hτ rfl rfl rfl ?_
      refine awl_val hτ rfl rfl rfl ?_
      refine awl_nil ?_
      exact ⟨(m31, x35.Parent, (v26 ++ [v25])), h, Nat.lt_succ_self m31, (weak_ofP [0, 1] (l := [(0, .ptr 0 0), (1, .d (.int .i64 x35.Parent)), (5, .row 1 ((v26 ++ [v25]).length) 0 ((v26 ++ [v25]).length))]) (objs := [.box [.d (.cx .f32 f_.Source.A.re f_.Source.A.im), .d (.cx .f32 f_.Source.B.re f_.Source.B.im), .d (.cx .f32 f_.Source.C.re f_.Source.C.im), .d (.sl false (f_.Buses.map eSBus))], .row 1 ((v26 ++ [v25]).map eInti64)]) rfl (by simp) rfl (by repeat' first | exact trivial | refine ⟨?_, ?_⟩) ⟨rfl, trivial, rfl, trivial, rfl, trivial, trivial⟩)⟩
    · have h := if_f h hc33
      refine aw_exit ?_
      refine aw_weak (weak_ofP [0, 1] (l := [(5, .row 1 v26.length 0 v26.length)]) (objs := [.box [.d (.cx .f32 f_.Source.A.re f_.Source.A.im), .d (.cx .f32 f_.Source.B.re f_.Source.B.im), .d (.cx .f32 f_.Source.C.re f_.Source.C.im), .d (.sl false (f_.Buses.map eSBus))], .row 1 (v26.map eInti64)]) rfl (by simp) rfl (by repeat' first | exact trivial | refine ⟨?_, ?_⟩) ⟨rfl, trivial, trivial⟩) ?_
      exact hk22 v26 h

def m_slices_Index_l1 (n : Nat) (s_ : List Int) (v_ : Int) : Nat → Int → Option Int
  | 0, _ => none
  | m9 + 1, v6 =>
    if v6 < (s_.length : Int) then
      (getI s_ v6).bind fun x13 =>
      if v_ = x13 then
        some v6
      else
        (m_slices_Index_l1 n s_ v_ m9) (w64 (v6 + (1 : Int)))
    else
      some (-1 : Int)
def m_slices_Index (n : Nat) (s_ : List Int) (v_ : Int) : Option Int :=
  m_slices_Index_l1 n s_ v_ n (0 : Int)
theorem slices_Index_ok_fr0 (fr : Bool) (n : Nat) (s_ : List Int) (v_ : Int) {r : Int} (h : m_slices_Index n s_ v_ = some r) : ACall prog fr 244 [.d (.sl false (s_.map eInti64)), .d (.int .i64 v_)] [] (fun v o new => v = .d (.int .i64 r) ∧ o = [] ∧ new = []) := by
  refine acall_of_aw hτ func244 rfl (by simp) (by simp) ?_
  unfold m_slices_Index at h
  refine aw_seq ?_
  refine aw_region ?_
  refine awl_val hτ rfl rfl rfl ?_
  refine awl_nil ?_
  refine aw_seq ?_
  refine aw_seq ?_
  refine aw_region ?_
  refine awl_val hτ rfl rfl rfl ?_
  refine awl_val hτ (v := .d (.int .i64 (s_.length : Int))) rfl rfl (Eq.trans rfl (or_len (f := eInti64) s_)) ?_
  refine awl_val hτ rfl rfl rfl ?_
  refine awl_nil ?_
  refine aw_block ?_
  refine aw_loop (ι := Nat × Int) (fun (m9, v6) => St.of [(0, .d (.sl false (s_.map eInti64))), (1, .d (.int .i64 v_)), (7, .d (.int .i64 (s_.length : Int))), (8, .d (.int .i64 v6))] [] f244.ntmps 0) (fun (m9, v6) => m_slices_Index_l1 n s_ v_ m9 v6 = some r) (fun x => x.1) (n, (0 : Int)) h (weak_ofP [] (l := [(0, .d (.sl false (s_.map eInti64))), (1, .d (.int .i64 v_)), (7, .d (.int .i64 (s_.length : Int))), (8, .d (.int .i64 (0 : Int)))]) (objs := []) rfl (by simp) rfl (by repeat' first | exact trivial | refine ⟨?_, ?_⟩) ⟨rfl, trivial, rfl, trivial, rfl, trivial, rfl, trivial, trivial⟩) ?_
  rintro ⟨m9, v6⟩ h
  replace h : m_slices_Index_l1 n s_ v_ m9 v6 = some r := h
  rcases m9 with _ | m9
  · rw [m_slices_Index_l1] at h; cases h
  rw [m_slices_Index_l1] at h
  refine aw_seq ?_
  refine aw_region ?_
  refine awl_val hτ rfl rfl rfl ?_
  refine awl_nil ?_
  refine aw_seq ?_
  refine aw_cond rfl (fun hc11 => ?_) (fun hc11 => ?_)
  · have h := if_t h hc11
    refine aw_skip ?_
    refine aw_seq ?_
    refine aw_block ?_
    refine aw_seq ?_
    refine aw_region ?_
    refine awl_val hτ rfl rfl rfl ?_
    refine awl_val hτ rfl rfl rfl ?_
    refine awl_nil ?_
    refine aw_seq ?_
    refine aw_region ?_
    refine awl_val hτ rfl rfl rfl ?_
    refine awl_val hτ rfl rfl rfl ?_
    refine awl_val hτ rfl rfl rfl ?_
    refine bnd_elim h fun x13 hx13 h => ?_
    refine awl_elem hτ rfl rfl rfl (getI_some hx13).1 (map_getI hx13) rfl ?_
    refine awl_val hτ rfl rfl rfl ?_
    refine awl_val hτ (v := .d (.bool (decide (v_ = x13)))) rfl rfl (or_ieq _ _) ?_
    refine awl_nil ?_
    refine aw_weak (weak_ofP [] (l := [(0, .d (.sl false (s_.map eInti64))), (1, .d (.int .i64 v_)), (5, .d (.int .i64 v6)), (7, .d (.int .i64 (s_.length : Int))), (8, .d (.int .i64 v6)), (16, .d (.bool (decide (v_ = x13))))]) (objs := []) rfl (by simp) rfl (by repeat' first | exact trivial | refine ⟨?_, ?_⟩) ⟨rfl, trivial, rfl, trivial, rfl, trivial, rfl, trivial, rfl, trivial, rfl, trivial, trivial⟩) ?_
    refine aw_cond rfl (fun hc14 => ?_) (fun hc14 => ?_)
    · have h := if_t h hc14
      refine aw_seq ?_
      refine aw_region ?_
      refine awl_val hτ rfl rfl rfl ?_
      refine awl_val hτ rfl rfl rfl ?_
      refine awl_nil ?_
      refine aw_weak (weak_ofP [] (l := [(4, .d (.int .i64 v6))]) (objs := []) rfl (by simp) rfl (by repeat' first | exact trivial | refine ⟨?_, ?_⟩) ⟨rfl, trivial, trivial⟩) ?_
      refine aw_ret ?_
      have hr := Option.some.inj h
      subst hr
      exact ret_objs (.inr rfl) [] (objs' := []) (new := []) rfl (by simp) (by simp) rfl (by repeat' first | exact trivial | refine ⟨?_, ?_⟩) rfl rfl (by repeat' first | exact trivial | refine ⟨?_, ?_⟩) (fun _ => ⟨by simp [V.flat, V.flatA, V.flatC, D.flat], flat_nil⟩) ⟨rfl, rfl, rfl⟩
    · have h := if_f h hc14
      refine aw_skip ?_
      refine aw_region ?_
      refine awl_val hτ rfl rfl rfl ?_
      refine awl_val hτ rfl rfl rfl ?_
      refine awl_nil ?_
      exact ⟨(m9, (w64 (v6 + (1 : Int)))), h, Nat.lt_succ_self m9, (weak_ofP [] (l := [(0, .d (.sl false (s_.map eInti64))), (1, .d (.int .i64 v_)), (7, .d (.int .i64 (s_.length : Int))), (8, .d (.int .i64 (w64 (v6 + (1 : Int)))))]) (objs := []) rfl (by simp) rfl (by repeat' first | exact trivial | refine ⟨?_, ?_⟩) ⟨rfl, trivial, rfl, trivial, rfl, trivial, rfl, trivial, trivial⟩)⟩
  · have h := if_f h hc11
    refine aw_exit ?_
    refine aw_seq ?_
    refine aw_region ?_
    refine awl_val hτ rfl rfl rfl ?_
    refine awl_nil ?_
    refine aw_weak (weak_ofP [] (l := [(4, .d (.int .i64 (-1 : Int)))]) (objs := []) rfl (by simp) rfl (by repeat' first | exact trivial | refine ⟨?_, ?_⟩) ⟨rfl, trivial, trivial⟩) ?_
    refine aw_ret ?_
    have hr := Option.some.inj h
    subst hr
    exact ret_objs (.inr rfl) [] (objs' := []) (new := []) rfl (by simp) (by simp) rfl (by repeat' first | exact trivial | refine ⟨?_, ?_⟩) rfl rfl (by repeat' first | exact trivial | refine ⟨?_, ?_⟩) (fun _ => ⟨by simp [V.flat, V.flatA, V.flatC, D.flat], flat_nil⟩) ⟨rfl, rfl, rfl⟩
theorem slices_Index_ok (n : Nat) (s_ : List Int) (v_ : Int) {r : Int} (h : m_slices_Index n s_ v_ = some r) : ACall prog false 244 [.d (.sl false (s_.map eInti64)), .d (.int .i64 v_)] [] (fun v o new => v = .d (.int .i64 r) ∧ o = [] ∧ new = []) := slices_Index_ok_fr0 false n s_ v_ h
theorem slices_Index_ok_fr (n : Nat) (s_ : List Int) (v_ : Int) {r : Int} (h : m_slices_Index n s_ v_ = some r) : ACall prog true 244 [.d (.sl false (s_.map eInti64)), .d (.int .i64 v_)] [] (fun v o new => v = .d (.int .i64 r) ∧ o = [] ∧ new = []) := slices_Index_ok_fr0 true n s_ v_ h

def m_slices_Contains (n : Nat) (s_ : List Int) (v_ : Int) : Option Bool :=
  (m_slices_Index n s_ v_).bind fun x2 =>
  some (decide (x2 ≥ (0 : Int)))
theorem slices_Contains_ok_fr0 (fr : Bool) (n : Nat) (s_ : List Int) (v_ : Int) {r : Bool} (h : m_slices_Contains n s_ v_ = some r) : ACall prog fr 150 [.d (.sl false (s_.map eInti64)), .d (.int .i64 v_)] [] (fun v o new => v = .d (.bool r) ∧ o = [] ∧ new = []) := by
  refine acall_of_aw hτ func150 rfl (by simp) (by simp) ?_
  unfold m_slices_Contains at h
  refine aw_seq ?_
  refine aw_region ?_
  refine awl_val hτ rfl rfl rfl ?_
  refine awl_nil ?_
  refine aw_seq ?_
  refine aw_region ?_
  refine awl_val hτ rfl rfl rfl ?_
  refine awl_val hτ rfl rfl rfl ?_
  refine bnd_elim h fun x2 hx2 h => ?_
  refine awl_callP hτ false [] rfl rfl rfl (enterOk func244 rfl rfl) rfl rfl (by simp) ⟨trivial, trivial, trivial⟩ (by repeat' first | exact trivial | refine ⟨?_, ?_⟩) (slices_Index_ok n s_ v_ hx2) ?_
  rintro r0 o0 n0 ⟨rfl, rfl, rfl⟩ -
  refine awl_val hτ rfl rfl rfl ?_
  refine awl_val hτ rfl rfl rfl ?_
  refine awl_nil ?_
  refine aw_weak (weak_ofP [] (l := [(4, .d (.bool (decide (x2 ≥ (0 : Int)))))]) (objs := []) rfl (by simp) rfl (by repeat' first | exact trivial | refine ⟨?_, ?_⟩) ⟨rfl, trivial, trivial⟩) ?_
  refine aw_ret ?_
  have hr := Option.some.inj h
  subst hr
  exact ret_objs (.inr rfl) [] (objs' := []) (new := []) rfl (by simp) (by simp) rfl (by repeat' first | exact trivial | refine ⟨?_, ?_⟩) rfl rfl (by repeat' first | exact trivial | refine ⟨?_, ?_⟩) (fun _ => ⟨by simp [V.flat, V.flatA, V.flatC, D.flat], flat_nil⟩) ⟨rfl, rfl, rfl⟩
theorem slices_Contains_ok (n : Nat) (s_ : List Int) (v_ : Int) {r : Bool} (h : m_slices_Contains n s_ v_ = some r) : ACall prog false 150 [.d (.sl false (s_.map eInti64)), .d (.int .i64 v_)] [] (fun v o new => v = .d (.bool r) ∧ o = [] ∧ new = []) := slices_Contains_ok_fr0 false n s_ v_ h
theorem slices_Contains_ok_fr (n : Nat) (s_ : List Int) (v_ : Int) {r : Bool} (h : m_slices_Contains n s_ v_ = some r) : ACall prog true 150 [.d (.sl false (s_.map eInti64)), .d (.int .i64 v_)] [] (fun v o new => v = .d (.bool r) ∧ o = [] ∧ new = []) := slices_Contains_ok_fr0 true n s_ v_ h

def m_impl_DarkBuses_1 (n : Nat) (o_ : SOutage) (a1_ : Int) (a2_ : List Int) : Option Bool :=
  if o_.From ≤ a1_ then
    if o_.Until > a1_ then
      (m_slices_Contains n a2_ o_.Bus).bind fun x8 =>
      some x8
    else
      some false
  else
    some false
theorem impl_DarkBuses_1_ok_fr0 (fr : Bool) (n : Nat) (o_ : SOutage) (a1_ : Int) (a2_ : List Int) {r : Bool} (h : m_impl_DarkBuses_1 n o_ a1_ a2_ = some r) : ACall prog fr 176 [.agg [.d (.int .i64 o_.Bus), .d (.int .i64 o_.From), .d (.int .i64 o_.Until)], .ptr 0 0, .ptr 1 0] [.box [.d (.int .i64 a1_)], .box [.row 2 a2_.length 0 a2_.length], .row 1 (a2_.map eInti64)] (fun v o new => v = .d (.bool r) ∧ o = [.box [.d (.int .i64 a1_)], .box [.row 2 a2_.length 0 a2_.length], .row 1 (a2_.map eInti64)] ∧ new = []) := by
  refine acall_of_aw hτ func176 rfl (by simp) (by simp) ?_
  unfold m_impl_DarkBuses_1 at h
  refine aw_seq ?_
  refine aw_region ?_
  refine awl_valH hτ rfl rfl rfl ?_
  refine awl_val hτ rfl rfl rfl ?_
  refine awl_nil ?_
  refine aw_seq ?_
  refine aw_region ?_
  refine awl_val hτ rfl rfl rfl ?_
  refine awl_val hτ rfl rfl rfl ?_
  refine awl_val hτ rfl rfl rfl ?_
  refine awl_val hτ rfl rfl rfl ?_
  refine awl_val hτ rfl rfl rfl ?_
  refine awl_split 9 rfl (fun hb6 => ?_) (fun hb6 => ?_)
  · have h := if_t h hb6
    refine awl_val hτ rfl rfl rfl ?_
    refine awl_val hτ rfl rfl rfl ?_
    refine awl_val hτ rfl rfl rfl ?_
    refine awl_val hτ rfl rfl rfl ?_
    refine awl_val hτ rfl rfl rfl ?_
    refine awl_weak (weak_ofP [0, 1, 2, 3] (l := [(2, .ptr 1 0), (3, .ptr 3 0), (4, .d (.bool false)), (14, .d (.bool (decide (o_.Until > a1_))))]) (objs := [.box [.d (.int .i64 a1_)], .box [.row 2 a2_.length 0 a2_.length], .row 1 (a2_.map eInti64), .box [.d (.int .i64 o_.Bus), .d (.int .i64 o_.From), .d (.int .i64 o_.Until)]]) rfl (by simp) rfl (by repeat' first | exact trivial | refine ⟨?_, ?_⟩) ⟨rfl, trivial, rfl, trivial, rfl, trivial, rfl, trivial, trivial⟩) ?_
    refine awl_val hτ rfl rfl rfl ?_
    refine awl_split 15 rfl (fun hb7 => ?_) (fun hb7 => ?_)
    · have h := if_t h hb7
      refine awl_val hτ rfl rfl rfl ?_
      refine awl_val hτ rfl rfl rfl ?_
      refine awl_val hτ rfl rfl rfl ?_
      refine awl_weak (weak_ofP [0, 1, 2] (l := [(4, .d (.bool false)), (15, .d (.bool true)), (16, .row 2 a2_.length 0 a2_.length), (18, .d (.int .i64 o_.Bus))]) (objs := [.box [.d (.int .i64 a1_)], .box [.row 2 a2_.length 0 a2_.length], .row 1 (a2_.map eInti64)]) rfl (by simp) rfl (by repeat' first | exact trivial | refine ⟨?_, ?_⟩) ⟨rfl, trivial, rfl, trivial, rfl, trivial, rfl, trivial, trivial⟩) ?_
      refine bnd_elim h fun x8 hx8 h => ?_
      refine awl_callP hτ true [] rfl rfl rfl (enterOk func150 rfl rfl) (mapO_cons (exV_view (f := eInti64) a2_ rfl rfl rfl) (mapO_cons rfl mapO_nil)) rfl (by simp) ⟨(exVP_view (f := eInti64) a2_ rfl rfl rfl), trivial, trivial⟩ (by repeat' first | exact trivial | refine ⟨?_, ?_⟩) (slices_Contains_ok_fr n a2_ o_.Bus hx8) ?_
      rintro r0 o0 n0 ⟨rfl, rfl, rfl⟩ -
      refine awl_val hτ rfl rfl rfl ?_
      refine awl_val hτ rfl rfl rfl ?_
      refine awl_nil ?_
      refine aw_weak (weak_ofP [0, 1, 2] (l := [(4, .d (.bool x8))]) (objs := [.box [.d (.int .i64 a1_)], .box [.row 2 a2_.length 0 a2_.length], .row 1 (a2_.map eInti64)]) rfl (by simp) rfl (by repeat' first | exact trivial | refine ⟨?_, ?_⟩) ⟨rfl, trivial, trivial⟩) ?_
      refine aw_ret ?_
      have hr := Option.some.inj h
      subst hr
      exact ret_objs (.inr rfl) [] (objs' := [.box [.d (.int .i64 a1_)], .box [.row 2 a2_.length 0 a2_.length], .row 1 (a2_.map eInti64)]) (new := []) rfl (by simp) (by simp) rfl (by repeat' first | exact trivial | refine ⟨?_, ?_⟩) rfl rfl (by repeat' first | exact trivial | refine ⟨?_, ?_⟩) (fun _ => ⟨by simp [V.flat, V.flatA, V.flatC, D.flat], (flat_cons (by simp [AObj.flat, V.flatC, D.flat]) (flat_cons (by simp [AObj.flat, V.flatC, D.flat]) (flat_cons (flat_row eInti64_flat _) flat_nil)))⟩) ⟨rfl, rfl, rfl⟩
    · have h := if_f h hb7
      refine awl_skip rfl rfl ?_
      refine awl_skip rfl rfl ?_
      refine awl_skip rfl rfl ?_
      refine awl_skip rfl rfl ?_
      refine awl_val hτ rfl rfl rfl ?_
      refine awl_val hτ rfl rfl rfl ?_
      refine awl_nil ?_
      refine aw_weak (weak_ofP [0, 1, 2] (l := [(4, .d (.bool false))]) (objs := [.box [.d (.int .i64 a1_)], .box [.row 2 a2_.length 0 a2_.length], .row 1 (a2_.map eInti64)]) rfl (by simp) rfl (by repeat' first | exact trivial | refine ⟨?_, ?_⟩) ⟨rfl, trivial, trivial⟩) ?_
      refine aw_ret ?_
      have hr := Option.some.inj h
      subst hr
      exact ret_objs (.inr rfl) [] (objs' := [.box [.d (.int .i64 a1_)], .box [.row 2 a2_.length 0 a2_.length], .row 1 (a2_.map eInti64)]) (new := []) rfl (by simp) (by simp) rfl (by repeat' first | exact trivial | refine ⟨?_, ?_⟩) rfl rfl (by repeat' first | exact trivial | refine ⟨?_, ?_⟩) (fun _ => ⟨by simp [V.flat, V.flatA, V.flatC, D.flat], (flat_cons (by simp [AObj.flat, V.flatC, D.flat]) (flat_cons (by simp [AObj.flat, V.flatC, D.flat]) (flat_cons (flat_row eInti64_flat _) flat_nil)))⟩) ⟨rfl, rfl, rfl⟩
  · have h := if_f h hb6
    refine awl_skip rfl rfl ?_
    refine awl_skip rfl rfl ?_
    refine awl_skip rfl rfl ?_
    refine awl_skip rfl rfl ?_
    refine awl_val hτ rfl rfl rfl ?_
    refine awl_weak (weak_ofP [0, 1, 2, 3] (l := [(2, .ptr 1 0), (3, .ptr 3 0), (4, .d (.bool false)), (14, .d (.bool false))]) (objs := [.box [.d (.int .i64 a1_)], .box [.row 2 a2_.length 0 a2_.length], .row 1 (a2_.map eInti64), .box [.d (.int .i64 o_.Bus), .d (.int .i64 o_.From), .d (.int .i64 o_.Until)]]) rfl (by simp) rfl (by repeat' first | exact trivial | refine ⟨?_, ?_⟩) ⟨rfl, trivial, rfl, trivial, rfl, trivial, rfl, trivial, trivial⟩) ?_
    refine awl_val hτ rfl rfl rfl ?_
    refine awl_skip rfl rfl ?_
    refine awl_skip rfl rfl ?_
    refine awl_skip rfl rfl ?_
    refine awl_skip rfl rfl ?_
    refine awl_val hτ rfl rfl rfl ?_
    refine awl_val hτ rfl rfl rfl ?_
    refine awl_nil ?_
    refine aw_weak (weak_ofP [0, 1, 2] (l := [(4, .d (.bool false))]) (objs := [.box [.d (.int .i64 a1_)], .box [.row 2 a2_.length 0 a2_.length], .row 1 (a2_.map eInti64)]) rfl (by simp) rfl (by repeat' first | exact trivial | refine ⟨?_, ?_⟩) ⟨rfl, trivial, trivial⟩) ?_
    refine aw_ret ?_
    have hr := Option.some.inj h
    subst hr
    exact ret_objs (.inr rfl) [] (objs' := [.box [.d (.int .i64 a1_)], .box [.row 2 a2_.length 0 a2_.length], .row 1 (a2_.map eInti64)]) (new := []) rfl (by simp) (by simp) rfl (by repeat' first | exact trivial | refine ⟨?_, ?_⟩) rfl rfl (by repeat' first | exact trivial | refine ⟨?_, ?_⟩) (fun _ => ⟨by simp [V.flat, V.flatA, V.flatC, D.flat], (flat_cons (by simp [AObj.flat, V.flatC, D.flat]) (flat_cons (by simp [AObj.flat, V.flatC, D.flat]) (flat_cons (flat_row eInti64_flat _) flat_nil)))⟩) ⟨rfl, rfl, rfl⟩
theorem impl_DarkBuses_1_ok (n : Nat) (o_ : SOutage) (a1_ : Int) (a2_ : List Int) {r : Bool} (h : m_impl_DarkBuses_1 n o_ a1_ a2_ = some r) : ACall prog false 176 [.agg [.d (.int .i64 o_.Bus), .d (.int .i64 o_.From), .d (.int .i64 o_.Until)], .ptr 0 0, .ptr 1 0] [.box [.d (.int .i64 a1_)], .box [.row 2 a2_.length 0 a2_.length], .row 1 (a2_.map eInti64)] (fun v o new => v = .d (.bool r) ∧ o = [.box [.d (.int .i64 a1_)], .box [.row 2 a2_.length 0 a2_.length], .row 1 (a2_.map eInti64)] ∧ new = []) := impl_DarkBuses_1_ok_fr0 false n o_ a1_ a2_ h
theorem impl_DarkBuses_1_ok_fr (n : Nat) (o_ : SOutage) (a1_ : Int) (a2_ : List Int) {r : Bool} (h : m_impl_DarkBuses_1 n o_ a1_ a2_ = some r) : ACall prog true 176 [.agg [.d (.int .i64 o_.Bus), .d (.int .i64 o_.From), .d (.int .i64 o_.Until)], .ptr 0 0, .ptr 1 0] [.box [.d (.int .i64 a1_)], .box [.row 2 a2_.length 0 a2_.length], .row 1 (a2_.map eInti64)] (fun v o new => v = .d (.bool r) ∧ o = [.box [.d (.int .i64 a1_)], .box [.row 2 a2_.length 0 a2_.length], .row 1 (a2_.map eInti64)] ∧ new = []) := impl_DarkBuses_1_ok_fr0 true n o_ a1_ a2_ h

def m_slices_IndexFunc_l1 (n : Nat) (s_ : List SOutage) (c_ : Int) (c__ : List Int) : Nat → Int → Option Int
  | 0, _ => none
  | m13 + 1, v9 =>
    if v9 < (s_.length : Int) then
      (getI s_ v9).bind fun x18 =>
      (m_impl_DarkBuses_1 n x18 c_ c__).bind fun x19 =>
      if x19 = true then
        some v9
      else
        (m_slices_IndexFunc_l1 n s_ c_ c__ m13) (w64 (v9 + (1 : Int)))
    else
      some (-1 : Int)
def m_slices_IndexFunc (n : Nat) (s_ : List SOutage) (c_ : Int) (c__ : List Int) : Option Int :=
  m_slices_IndexFunc_l1 n s_ c_ c__ n (0 : Int)
theorem slices_IndexFunc_ok_fr0 (fr : Bool) (n : Nat) (s_ : List SOutage) (c_ : Int) (c__ : List Int) {r : Int} (h : m_slices_IndexFunc n s_ c_ c__ = some r) : ACall prog fr 263 [.d (.sl false (s_.map eSOutage)), .func 176 [] [.ptr 0 0, .ptr 1 0]] [.box [.d (.int .i64 c_)], .box [.row 2 c__.length 0 c__.length], .row 1 (c__.map eInti64)] (fun v o new => v = .d (.int .i64 r) ∧ o = [.box [.d (.int .i64 c_)], .box [.row 2 c__.length 0 c__.length], .row 1 (c__.map eInti64)] ∧ new = []) := by
  refine acall_of_aw hτ func263 rfl (by simp) (by simp) ?_
  unfold m_slices_IndexFunc at h
  refine aw_seq ?_
  refine aw_region ?_
  refine awl_val hτ rfl rfl rfl ?_
  refine awl_nil ?_
  refine aw_seq ?_
  refine aw_seq ?_
  refine aw_region ?_
  refine awl_val hτ rfl rfl rfl ?_
  refine awl_val hτ (v := .d (.int .i64 (s_.length : Int))) rfl rfl (Eq.trans rfl (or_len (f := eSOutage) s_)) ?_
  refine awl_val hτ rfl rfl rfl ?_
  refine awl_nil ?_
  refine aw_block ?_
  refine aw_loop (ι := Nat × Int) (fun (m13, v9) => St.of [(0, .d (.sl false (s_.map eSOutage))), (1, .func 176 [] [.ptr 0 0, .ptr 1 0]), (7, .d (.int .i64 (s_.length : Int))), (8, .d (.int .i64 v9))] [.box [.d (.int .i64 c_)], .box [.row 2 c__.length 0 c__.length], .row 1 (c__.map eInti64)] f263.ntmps 3) (fun (m13, v9) => m_slices_IndexFunc_l1 n s_ c_ c__ m13 v9 = some r) (fun x => x.1) (n, (0 : Int)) h (weak_ofP [0, 1, 2] (l := [(0, .d (.sl false (s_.map eSOutage))), (1, .func 176 [] [.ptr 0 0, .ptr 1 0]), (7, .d (.int .i64 (s_.length : Int))), (8, .d (.int .i64 (0 : Int)))]) (objs := [.box [.d (.int .i64 c_)], .box [.row 2 c__.length 0 c__.length], .row 1 (c__.map eInti64)]) rfl (by simp) rfl (by repeat' first | exact trivial | refine ⟨?_, ?_⟩) ⟨rfl, trivial, rfl, (by repeat' first | exact trivial | refine ⟨?_, ?_⟩), rfl, trivial, rfl, trivial, trivial⟩) ?_
  rintro ⟨m13, v9⟩ h
  replace h : m_slices_IndexFunc_l1 n s_ c_ c__ m13 v9 = some r := h
  rcases m13 with _ | m13
  · rw [m_slices_IndexFunc_l1] at h; cases h
  rw [m_slices_IndexFunc_l1] at h
  refine aw_seq ?_
  refine aw_region ?_
  refine awl_val hτ rfl rfl rfl ?_
  refine awl_nil ?_
  refine aw_seq ?_
  refine aw_cond rfl (fun hc15 => ?_) (fun hc15 => ?_)
  · have h := if_t h hc15
    refine aw_skip ?_
    refine aw_seq ?_
    refine aw_block ?_
    refine aw_seq ?_
    refine aw_region ?_
    refine awl_val hτ rfl rfl rfl ?_
    refine awl_val hτ rfl rfl rfl ?_
    refine awl_nil ?_
    refine aw_seq ?_
    refine aw_region ?_
    refine awl_val hτ rfl rfl rfl ?_
    refine awl_val hτ rfl rfl rfl ?_
    refine awl_val hτ rfl rfl rfl ?_
    refine bnd_elim h fun x18 hx18 h => ?_
    refine awl_elem hτ rfl rfl rfl (getI_some hx18).1 (map_getI hx18) rfl ?_
    refine awl_val hτ rfl rfl rfl ?_
    refine bnd_elim h fun x19 hx19 h => ?_
    refine awl_callP hτ false [0, 1, 2] rfl rfl rfl (enterOk func176 rfl rfl) rfl rfl (by simp) ⟨(by repeat' first | exact trivial | refine ⟨?_, ?_⟩), trivial, trivial, trivial⟩ (by repeat' first | exact trivial | refine ⟨?_, ?_⟩) (impl_DarkBuses_1_ok n x18 c_ c__ hx19) ?_
    rintro r0 o0 n0 ⟨rfl, rfl, rfl⟩ -
    refine awl_nil ?_
    refine aw_weak (weak_ofP [0, 1, 2] (l := [(0, .d (.sl false (s_.map eSOutage))), (1, .func 176 [] [.ptr 0 0, .ptr 1 0]), (5, .d (.int .i64 v9)), (7, .d (.int .i64 (s_.length : Int))), (8, .d (.int .i64 v9)), (16, .d (.bool x19))]) (objs := [.box [.d (.int .i64 c_)], .box [.row 2 c__.length 0 c__.length], .row 1 (c__.map eInti64)]) rfl (by simp) rfl (by repeat' first | exact trivial | refine ⟨?_, ?_⟩) ⟨rfl, trivial, rfl, (by repeat' first | exact trivial | refine ⟨?_, ?_⟩), rfl, trivial, rfl, trivial, rfl, trivial, rfl, trivial, trivial⟩) ?_
    refine aw_cond rfl (fun hc20 => ?_) (fun hc20 => ?_)
    · have h := if_bt h hc20
      refine aw_seq ?_
      refine aw_region ?_
      refine awl_val hτ rfl rfl rfl ?_
      refine awl_val hτ rfl rfl rfl ?_
      refine awl_nil ?_
      refine aw_weak (weak_ofP [0, 1, 2] (l := [(4, .d (.int .i64 v9))]) (objs := [.box [.d (.int .i64 c_)], .box [.row 2 c__.length 0 c__.length], .row 1 (c__.map eInti64)]) rfl (by simp) rfl (by repeat' first | exact trivial | refine ⟨?_, ?_⟩) ⟨rfl, trivial, trivial⟩) ?_
      refine aw_ret ?_
      have hr := Option.some.inj h
      subst hr
      exact ret_objs (.inr rfl) [] (objs' := [.box [.d (.int .i64 c_)], .box [.row 2 c__.length 0 c__.length], .row 1 (c__.map eInti64)]) (new := []) rfl (by simp) (by simp) rfl (by repeat' first | exact trivial | refine ⟨?_, ?_⟩) rfl rfl (by repeat' first | exact trivial | refine ⟨?_, ?_⟩) (fun _ => ⟨by simp [V.flat, V.flatA, V.flatC, D.flat], (flat_cons (by simp [AObj.flat, V.flatC, D.flat]) (flat_cons (by simp [AObj.flat, V.flatC, D.flat]) (flat_cons (flat_row eInti64_flat _) flat_nil)))⟩) ⟨rfl, rfl, rfl⟩
    · have h := if_bf h hc20
      refine aw_skip ?_
      refine aw_region ?_
      refine awl_val hτ rfl rfl rfl ?_
      refine awl_val hτ rfl rfl rfl ?_
      refine awl_nil ?_
      exact ⟨(m13, (w64 (v9 + (1 : Int)))), h, Nat.lt_succ_self m13, (weak_ofP [0, 1, 2] (l := [(0, .d (.sl false (s_.map eSOutage))), (1, .func 176 [] [.ptr 0 0, .ptr 1 0]), (7, .d (.int .i64 (s_.length : Int))), (8, .d (.int .i64 (w64 (v9 + (1 : Int)))))]) (objs := [.box [.d (.int .i64 c_)], .box [.row 2 c__.length 0 c__.length], .row 1 (c__.map eInti64)]) rfl (by simp) rfl (by repeat' first | exact trivial | refine ⟨?_, ?_⟩) ⟨rfl, trivial, rfl, (by repeat' first | exact trivial | refine ⟨?_, ?_⟩), rfl, trivial, rfl, trivial, trivial⟩)⟩
  · have h := if_f h hc15
    refine aw_exit ?_
    refine aw_seq ?_
    refine aw_region ?_
    refine awl_val hτ rfl rfl rfl ?_
    refine awl_nil ?_
    refine aw_weak (weak_ofP [0, 1, 2] (l := [(4, .d (.int .i64 (-1 : Int)))]) (objs := [.box [.d (.int .i64 c_)], .box [.row 2 c__.length 0 c__.length], .row 1 (c__.map eInti64)]) rfl (by simp) rfl (by repeat' first | exact trivial | refine ⟨?_, ?_⟩) ⟨rfl, trivial, trivial⟩) ?_
    refine aw_ret ?_
    have hr := Option.some.inj h
    subst hr
    exact ret_objs (.inr rfl) [] (objs' := [.box [.d (.int .i64 c_)], .box [.row 2 c__.length 0 c__.length], .row 1 (c__.map eInti64)]) (new := []) rfl (by simp) (by simp) rfl (by repeat' first | exact trivial | refine ⟨?_, ?_⟩) rfl rfl (by repeat' first | exact trivial | refine ⟨?_, ?_⟩) (fun _ => ⟨by simp [V.flat, V.flatA, V.flatC, D.flat], (flat_cons (by simp [AObj.flat, V.flatC, D.flat]) (flat_cons (by simp [AObj.flat, V.flatC, D.flat]) (flat_cons (flat_row eInti64_flat _) flat_nil)))⟩) ⟨rfl, rfl, rfl⟩
theorem slices_IndexFunc_ok (n : Nat) (s_ : List SOutage) (c_ : Int) (c__ : List Int) {r : Int} (h : m_slices_IndexFunc n s_ c_ c__ = some r) : ACall prog false 263 [.d (.sl false (s_.map eSOutage)), .func 176 [] [.ptr 0 0, .ptr 1 0]] [.box [.d (.int .i64 c_)], .box [.row 2 c__.length 0 c__.length], .row 1 (c__.map eInti64)] (fun v o new => v = .d (.int .i64 r) ∧ o = [.box [.d (.int .i64 c_)], .box [.row 2 c__.length 0 c__.length], .row 1 (c__.map eInti64)] ∧ new = []) := slices_IndexFunc_ok_fr0 false n s_ c_ c__ h
theorem slices_IndexFunc_ok_fr (n : Nat) (s_ : List SOutage) (c_ : Int) (c__ : List Int) {r : Int} (h : m_slices_IndexFunc n s_ c_ c__ = some r) : ACall prog true 263 [.d (.sl false (s_.map eSOutage)), .func 176 [] [.ptr 0 0, .ptr 1 0]] [.box [.d (.int .i64 c_)], .box [.row 2 c__.length 0 c__.length], .row 1 (c__.map eInti64)] (fun v o new => v = .d (.int .i64 r) ∧ o = [.box [.d (.int .i64 c_)], .box [.row 2 c__.length 0 c__.length], .row 1 (c__.map eInti64)] ∧ new = []) := slices_IndexFunc_ok_fr0 true n s_ c_ c__ h

def m_slices_ContainsFunc (n : Nat) (s_ : List SOutage) (c_ : Int) (c__ : List Int) : Option Bool :=
  (m_slices_IndexFunc n s_ c_ c__).bind fun x2 =>
  some (decide (x2 ≥ (0 : Int)))
theorem slices_ContainsFunc_ok_fr0 (fr : Bool) (n : Nat) (s_ : List SOutage) (c_ : Int) (c__ : List Int) {r : Bool} (h : m_slices_ContainsFunc n s_ c_ c__ = some r) : ACall prog fr 175 [.d (.sl false (s_.map eSOutage)), .func 176 [] [.ptr 0 0, .ptr 1 0]] [.box [.d (.int .i64 c_)], .box [.row 2 c__.length 0 c__.length], .row 1 (c__.map eInti64)] (fun v o new => v = .d (.bool r) ∧ o = [.box [.d (.int .i64 c_)], .box [.row 2 c__.length 0 c__.length], .row 1 (c__.map eInti64)] ∧ new = []) := by
  refine acall_of_aw hτ func175 rfl (by simp) (by simp) ?_
  unfold m_slices_ContainsFunc at h
  refine aw_seq ?_
  refine aw_region ?_
  refine awl_val hτ rfl rfl rfl ?_
  refine awl_nil ?_
  refine aw_seq ?_
  refine aw_region ?_
  refine awl_val hτ rfl rfl rfl ?_
  refine awl_val hτ rfl rfl rfl ?_
  refine bnd_elim h fun x2 hx2 h => ?_
  refine awl_callP hτ false [0, 1, 2] rfl rfl rfl (enterOk func263 rfl rfl) rfl rfl (by simp) ⟨trivial, (by repeat' first | exact trivial | refine ⟨?_, ?_⟩), trivial⟩ (by repeat' first | exact trivial | refine ⟨?_, ?_⟩) (slices_IndexFunc_ok n s_ c_ c__ hx2) ?_
  rintro r0 o0 n0 ⟨rfl, rfl, rfl⟩ -
  refine awl_val hτ rfl rfl rfl ?_
  refine awl_val hτ rfl rfl rfl ?_
  refine awl_nil ?_
  refine aw_weak (weak_ofP [0, 1, 2] (l := [(4, .d (.bool (decide (x2 ≥ (0 : Int)))))]) (objs := [.box [.d (.int .i64 c_)], .box [.row 2 c__.length 0 c__.length], .row 1 (c__.map eInti64)]) rfl (by simp) rfl (by repeat' first | exact trivial | refine ⟨?_, ?_⟩) ⟨rfl, trivial, trivial⟩) ?_
  refine aw_ret ?_
  have hr := Option.some.inj h
  subst hr
  exact ret_objs (.inr rfl) [] (objs' := [.box [.d (.int .i64 c_)], .box [.row 2 c__.length 0 c__.length], .row 1 (c__.map eInti64)]) (new := []) rfl (by simp) (by simp) rfl (by repeat' first | exact trivial | refine ⟨?_, ?_⟩) rfl rfl (by repeat' first | exact trivial | refine ⟨?_, ?_⟩) (fun _ => ⟨by simp [V.flat, V.flatA, V.flatC, D.flat], (flat_cons (by simp [AObj.flat, V.flatC, D.flat]) (flat_cons (by simp [AObj.flat, V.flatC, D.flat]) (flat_cons (flat_row eInti64_flat _) flat_nil)))⟩) ⟨rfl, rfl, rfl⟩
theorem slices_ContainsFunc_ok (n : Nat) (s_ : List SOutage) (c_ : Int) (c__ : List Int) {r : Bool} (h : m_slices_ContainsFunc n s_ c_ c__ = some r) : ACall prog false 175 [.d (.sl false (s_.map eSOutage)), .func 176 [] [.ptr 0 0, .ptr 1 0]] [.box [.d (.int .i64 c_)], .box [.row 2 c__.length 0 c__.length], .row 1 (c__.map eInti64)] (fun v o new => v = .d (.bool r) ∧ o = [.box [.d (.int .i64 c_)], .box [.row 2 c__.length 0 c__.length], .row 1 (c__.map eInti64)] ∧ new = []) := slices_ContainsFunc_ok_fr0 false n s_ c_ c__ h
theorem slices_ContainsFunc_ok_fr (n : Nat) (s_ : List SOutage) (c_ : Int) (c__ : List Int) {r : Bool} (h : m_slices_ContainsFunc n s_ c_ c__ = some r) : ACall prog true 175 [.d (.sl false (s_.map eSOutage)), .func 176 [] [.ptr 0 0, .ptr 1 0]] [.box [.d (.int .i64 c_)], .box [.row 2 c__.length 0 c__.length], .row 1 (c__.map eInti64)] (fun v o new => v = .d (.bool r) ∧ o = [.box [.d (.int .i64 c_)], .box [.row 2 c__.length 0 c__.length], .row 1 (c__.map eInti64)] ∧ new = []) := slices_ContainsFunc_ok_fr0 true n s_ c_ c__ h

def m_impl_DarkBuses_j3 (n : Nat) (k34 : List Int → Int → Option (List Int × Bool)) (v26 : Int) (v40 : List Int) : Option (List Int × Bool) :=
  k34 v40 (w64 (v26 + (1 : Int)))
def m_impl_DarkBuses_l2 (n : Nat) (f_ : SFeeder) (list_ : List SOutage) (time_ : Int) : Nat → List Int → Int → Option (List Int × Bool)
  | 0, _, _ => none
  | m33 + 1, v25, v26 =>
    if v26 < (f_.Buses.length : Int) then
      (m_impl_Feeder_path n f_ v26).bind fun x42 =>
      (m_slices_ContainsFunc n list_ time_ x42).bind fun x43 =>
      if x43 = true then
        grd (room (v25.length + 1) 8) <|
        m_impl_DarkBuses_j3 n (m_impl_DarkBuses_l2 n f_ list_ time_ m33) v26 (v25 ++ [v26])
      else
        m_impl_DarkBuses_j3 n (m_impl_DarkBuses_l2 n f_ list_ time_ m33) v26 v25
    else
      some (v25, true)
def m_impl_DarkBuses_j1 (n : Nat) (f_ : SFeeder) (list_ : List SOutage) (time_ : Int) : Option (List Int × Bool) :=
  m_impl_DarkBuses_l2 n f_ list_ time_ n ([] : List Int) (0 : Int)
def m_impl_DarkBuses_j4 (n : Nat) (f_ : SFeeder) (list_ : List SOutage) (time_ : Int) (v51 : Bool) : Option (List Int × Bool) :=
  if v51 = true then
    some (([] : List Int), false)
  else
    m_impl_DarkBuses_j1 n f_ list_ time_
def m_impl_DarkBuses (n : Nat) (f_ : SFeeder) (list_ : List SOutage) (time_ : Int) : Option (List Int × Bool) :=
  (m_impl_AreOutages n f_ list_).bind fun x54 =>
  if x54 = true then
    (m_impl_in n time_ (0 : Int) (99999 : Int)).bind fun x56 =>
    m_impl_DarkBuses_j4 n f_ list_ time_ (!x56)
  else
    m_impl_DarkBuses_j4 n f_ list_ time_ true
theorem impl_DarkBuses_ok_fr0 (fr : Bool) (n : Nat) (f_ : SFeeder) (list_ : List SOutage) (time_ : Int) {r : List Int × Bool} (h : m_impl_DarkBuses n f_ list_ time_ = some r) : ACall prog fr 74 [.agg [.d (.cx .f32 f_.Source.A.re f_.Source.A.im), .d (.cx .f32 f_.Source.B.re f_.Source.B.im), .d (.cx .f32 f_.Source.C.re f_.Source.C.im), .d (.sl false (f_.Buses.map eSBus))], .d (.sl false (list_.map eSOutage)), .d (.int .i64 time_)] [] (fun v o new => v = .tup [.row 0 r.1.length 0 r.1.length, .d (.bool r.2)] ∧ o = [] ∧ new = [.row 1 (r.1.map eInti64)]) := by
  refine acall_of_aw hτ func74 rfl (by simp) (by simp) ?_
  unfold m_impl_DarkBuses at h
  refine aw_seq ?_
  refine aw_region ?_
  refine awl_valH hτ rfl rfl rfl ?_
  refine awl_valH hτ rfl rfl rfl ?_
  refine awl_val hτ rfl rfl rfl ?_
  refine awl_val hτ rfl rfl rfl ?_
  refine awl_nil ?_
  refine aw_hk1 (ι := Unit) (fun _ => St.of [(1, .d (.sl false (list_.map eSOutage))), (3, .ptr 0 0), (5, .ptr 1 0)] [.box [.d (.cx .f32 f_.Source.A.re f_.Source.A.im), .d (.cx .f32 f_.Source.B.re f_.Source.B.im), .d (.cx .f32 f_.Source.C.re f_.Source.C.im), .d (.sl false (f_.Buses.map eSBus))], .box [.d (.int .i64 time_)]] f74.ntmps 0) (fun _ => m_impl_DarkBuses_j1 n f_ list_ time_ = some r) ?_ (fun hk46 => ?_)
  · rintro ⟨⟩ h
    replace h : m_impl_DarkBuses_j1 n f_ list_ time_ = some r := h
    unfold m_impl_DarkBuses_j1 at h
    refine aw_seq ?_
    refine aw_region ?_
    refine awl_valH hτ rfl rfl rfl ?_
    refine awl_val hτ rfl rfl rfl ?_
    refine awl_nil ?_
    refine aw_seq ?_
    refine aw_seq ?_
    refine aw_region ?_
    refine awl_val hτ rfl rfl rfl ?_
    refine awl_val hτ rfl rfl rfl ?_
    refine awl_val hτ (v := .d (.int .i64 (f_.Buses.length : Int))) rfl rfl (Eq.trans rfl (or_len (f := eSBus) f_.Buses)) ?_
    refine awl_val hτ rfl rfl rfl ?_
    refine awl_nil ?_
    refine aw_block ?_
    refine aw_loop (ι := Nat × List Int × Int) (fun (m33, v25, v26) => St.of [(1, .d (.sl false (list_.map eSOutage))), (3, .ptr 0 0), (5, .ptr 1 0), (8, .row 2 v25.length 0 v25.length), (23, .d (.int .i64 (f_.Buses.length : Int))), (24, .d (.int .i64 v26))] [.box [.d (.cx .f32 f_.Source.A.re f_.Source.A.im), .d (.cx .f32 f_.Source.B.re f_.Source.B.im), .d (.cx .f32 f_.Source.C.re f_.Source.C.im), .d (.sl false (f_.Buses.map eSBus))], .box [.d (.int .i64 time_)], .row 1 (v25.map eInti64)] f74.ntmps 0) (fun (m33, v25, v26) => m_impl_DarkBuses_l2 n f_ list_ time_ m33 v25 v26 = some r) (fun x => x.1) (n, ([] : List Int), (0 : Int)) h (weak_ofP [0, 1, 2] (l := [(1, .d (.sl false (list_.map eSOutage))), (3, .ptr 0 0), (5, .ptr 1 0), (8, .row 2 (([] : List Int).length) 0 (([] : List Int).length)), (23, .d (.int .i64 (f_.Buses.length : Int))), (24, .d (.int .i64 (0 : Int)))]) (objs := [.box [.d (.cx .f32 f_.Source.A.re f_.Source.A.im), .d (.cx .f32 f_.Source.B.re f_.Source.B.im), .d (.cx .f32 f_.Source.C.re f_.Source.C.im), .d (.sl false (f_.Buses.map eSBus))], .box [.d (.int .i64 time_)], .row 1 (([] : List Int).map eInti64)]) rfl (by simp) rfl (by repeat' first | exact trivial | refine ⟨?_, ?_⟩) ⟨rfl, trivial, rfl, trivial, rfl, trivial, rfl, trivial, rfl, trivial, rfl, trivial, trivial⟩) ?_
    rintro ⟨m33, v25, v26⟩ h
    replace h : m_impl_DarkBuses_l2 n f_ list_ time_ m33 v25 v26 = some r := h
    rcases m33 with _ | m33
    · rw [m_impl_DarkBuses_l2] at h; cases h
    rw [m_impl_DarkBuses_l2] at h
    refine aw_seq ?_
    refine aw_region ?_
    refine awl_val hτ rfl rfl rfl ?_
    refine awl_nil ?_
    refine aw_seq ?_
    refine aw_cond rfl (fun hc35 => ?_) (fun hc35 => ?_)
    · have h := if_t h hc35
      refine aw_skip ?_
      refine aw_hk1 (ι := List Int) (fun v40 => St.of [(1, .d (.sl false (list_.map eSOutage))), (3, .ptr 0 0), (5, .ptr 1 0), (8, .row 2 v40.length 0 v40.length), (23, .d (.int .i64 (f_.Buses.length : Int))), (24, .d (.int .i64 v26))] [.box [.d (.cx .f32 f_.Source.A.re f_.Source.A.im), .d (.cx .f32 f_.Source.B.re f_.Source.B.im), .d (.cx .f32 f_.Source.C.re f_.Source.C.im), .d (.sl false (f_.Buses.map eSBus))], .box [.d (.int .i64 time_)], .row 1 (v40.map eInti64)] f74.ntmps 0) (fun v40 => m_impl_DarkBuses_j3 n (m_impl_DarkBuses_l2 n f_ list_ time_ m33) v26 v40 = some r) ?_ (fun hk41 => ?_)
      · rintro v40 h
        replace h : m_impl_DarkBuses_j3 n (m_impl_DarkBuses_l2 n f_ list_ time_ m33) v26 v40 = some r := h
        unfold m_impl_DarkBuses_j3 at h
        refine aw_region ?_
        refine awl_val hτ rfl rfl rfl ?_
        refine awl_val hτ rfl rfl rfl ?_
        refine awl_nil ?_
        exact ⟨(m33, v40, (w64 (v26 + (1 : Int)))), h, Nat.lt_succ_self m33, (weak_ofP [0, 1, 2] (l := [(1, .d (.sl false (list_.map eSOutage))), (3, .ptr 0 0), (5, .ptr 1 0), (8, .row 2 v40.length 0 v40.length), (23, .d (.int .i64 (f_.Buses.length : Int))), (24, .d (.int .i64 (w64 (v26 + (1 : Int)))))]) (objs := [.box [.d (.cx .f32 f_.Source.A.re f_.Source.A.im), .d (.cx .f32 f_.Source.B.re f_.Source.B.im), .d (.cx .f32 f_.Source.C.re f_.Source.C.im), .d (.sl false (f_.Buses.map eSBus))], .box [.d (.int .i64 time_)], .row 1 (v40.map eInti64)]) rfl (by simp) rfl (by repeat' first | exact trivial | refine ⟨?_, ?_⟩) ⟨rfl, trivial, rfl, trivial, rfl, trivial, rfl, trivial, rfl, trivial, rfl, trivial, trivial⟩)⟩
      · refine aw_seq ?_
        refine aw_block ?_
        refine aw_seq ?_
        refine aw_region ?_
        refine awl_val hτ rfl rfl rfl ?_
        refine awl_val hτ rfl rfl rfl ?_
        refine awl_nil ?_
        refine aw_seq ?_
        refine aw_region ?_
        refine awl_val hτ rfl rfl rfl ?_
        refine bnd_elim h fun x42 hx42 h => ?_
        refine awl_callP hτ false [0] rfl rfl rfl (enterOk func129 rfl rfl) rfl rfl (by simp) ⟨trivial, trivial, trivial⟩ (by repeat' first | exact trivial | refine ⟨?_, ?_⟩) (impl_Feeder_path_ok n f_ v26 hx42) ?_
        rintro r0 o0 n0 ⟨rfl, rfl, rfl⟩ -
        refine awl_valH hτ rfl rfl rfl ?_
        refine awl_valH hτ rfl rfl rfl ?_
        refine awl_nil ?_
        refine aw_seq ?_
        refine aw_weak (weak_ofP [0, 1, 2, 4, 3] (l := [(1, .d (.sl false (list_.map eSOutage))), (3, .ptr 0 0), (5, .ptr 1 0), (8, .row 2 v25.length 0 v25.length), (9, .d (.int .i64 v26)), (10, .ptr 3 0), (23, .d (.int .i64 (f_.Buses.length : Int))), (24, .d (.int .i64 v26))]) (objs := [.box [.d (.cx .f32 f_.Source.A.re f_.Source.A.im), .d (.cx .f32 f_.Source.B.re f_.Source.B.im), .d (.cx .f32 f_.Source.C.re f_.Source.C.im), .d (.sl false (f_.Buses.map eSBus))], .box [.d (.int .i64 time_)], .row 1 (v25.map eInti64), .box [.row 4 x42.length 0 x42.length], .row 1 (x42.map eInti64)]) rfl (by simp) rfl (by repeat' first | exact trivial | refine ⟨?_, ?_⟩) ⟨rfl, trivial, rfl, trivial, rfl, trivial, rfl, trivial, rfl, trivial, rfl, trivial, rfl, trivial, rfl, trivial, trivial⟩) ?_
        refine aw_region ?_
        refine awl_val hτ rfl rfl rfl ?_
        refine awl_val hτ rfl rfl rfl ?_
        refine bnd_elim h fun x43 hx43 h => ?_
        refine awl_callP hτ false [1, 3, 4] rfl rfl rfl (enterOk func175 rfl rfl) rfl rfl (by simp) ⟨trivial, (by repeat' first | exact trivial | refine ⟨?_, ?_⟩), trivial⟩ (by repeat' first | exact trivial | refine ⟨?_, ?_⟩) (slices_ContainsFunc_ok n list_ time_ x42 hx43) ?_
        rintro r0 o0 n0 ⟨rfl, rfl, rfl⟩ -
        refine awl_nil ?_
        refine aw_cond rfl (fun hc44 => ?_) (fun hc44 => ?_)
        · have h := if_bt h hc44
          refine aw_region ?_
          refine awl_val hτ rfl rfl rfl ?_
          refine awl_val hτ rfl rfl rfl ?_
          refine awl_valH hτ rfl rfl rfl ?_
          refine grd_elim h fun hg45 h => ?_
          refine awl_needH hτ rfl rfl (Eq.trans rfl (or_append (f := eInti64) v25 [v26] rfl)) ⟨⟨rfl, Nat.le_of_ble_eq_true rfl⟩, len_map _, rfl, rfl, hg45, by decide, (all1 rfl)⟩ ?_
          refine awl_val hτ rfl rfl rfl ?_
          refine awl_nil ?_
          refine aw_weak (weak_ofP [0, 1, 2] (l := [(1, .d (.sl false (list_.map eSOutage))), (3, .ptr 0 0), (5, .ptr 1 0), (8, .row 2 ((v25 ++ [v26]).length) 0 ((v25 ++ [v26]).length)), (23, .d (.int .i64 (f_.Buses.length : Int))), (24, .d (.int .i64 v26))]) (objs := [.box [.d (.cx .f32 f_.Source.A.re f_.Source.A.im), .d (.cx .f32 f_.Source.B.re f_.Source.B.im), .d (.cx .f32 f_.Source.C.re f_.Source.C.im), .d (.sl false (f_.Buses.map eSBus))], .box [.d (.int .i64 time_)], .row 1 ((v25 ++ [v26]).map eInti64)]) rfl (by simp) rfl (by repeat' first | exact trivial | refine ⟨?_, ?_⟩) ⟨rfl, trivial, rfl, trivial, rfl, trivial, rfl, trivial, rfl, trivial, rfl, trivial, trivial⟩) ?_
          exact hk41 (v25 ++ [v26]) h
        · have h := if_bf h hc44
          refine aw_skip ?_
          refine aw_weak (weak_ofP [0, 1, 2] (l := [(1, .d (.sl false (list_.map eSOutage))), (3, .ptr 0 0), (5, .ptr 1 0), (8, .row 2 v25.length 0 v25.length), (23, .d (.int .i64 (f_.Buses.length : Int))), (24, .d (.int .i64 v26))]) (objs := [.box [.d (.cx .f32 f_.Source.A.re f_.Source.A.im), .d (.cx .f32 f_.Source.B.re f_.Source.B.im), .d (.cx .f32 f_.Source.C.re f_.Source.C.im), .d (.sl false (f_.Buses.map eSBus))], .box [.d (.int .i64 time_)], .row 1 (v25.map eInti64)]) rfl (by simp) rfl (by repeat' first | exact trivial | refine ⟨?_, ?_⟩) ⟨rfl, trivial, rfl, trivial, rfl, trivial, rfl, trivial, rfl, trivial, rfl, trivial, trivial⟩) ?_
          exact hk41 v25 h
    · have h := if_f h hc35
      refine aw_exit ?_
      refine aw_seq ?_
      refine aw_region ?_
      refine awl_val hτ rfl rfl rfl ?_
      refine awl_val hτ rfl rfl rfl ?_
      refine awl_val hτ rfl rfl rfl ?_
      refine awl_nil ?_
      refine aw_weak (weak_ofP [2] (l := [(6, .row 0 v25.length 0 v25.length), (7, .d (.bool true))]) (objs := [.row 1 (v25.map eInti64)]) rfl (by simp) rfl (by repeat' first | exact trivial | refine ⟨?_, ?_⟩) ⟨rfl, trivial, rfl, trivial, trivial⟩) ?_
      refine aw_ret ?_
      have hr := Option.some.inj h
      subst hr
      exact ret_objs (.inr rfl) [0] (objs' := []) (new := [.row 1 (v25.map eInti64)]) rfl (by simp) (by simp) rfl (by repeat' first | exact trivial | refine ⟨?_, ?_⟩) rfl rfl (by repeat' first | exact trivial | refine ⟨?_, ?_⟩) (fun _ => ⟨by simp [V.flat, V.flatA, V.flatC, D.flat], (flat_cons (flat_row eInti64_flat _) flat_nil)⟩) ⟨rfl, rfl, rfl⟩
  · refine aw_seq ?_
    refine aw_hk1 (ι := Bool) (fun v51 => St.of [(1, .d (.sl false (list_.map eSOutage))), (3, .ptr 0 0), (5, .ptr 1 0), (19, .d (.bool v51))] [.box [.d (.cx .f32 f_.Source.A.re f_.Source.A.im), .d (.cx .f32 f_.Source.B.re f_.Source.B.im), .d (.cx .f32 f_.Source.C.re f_.Source.C.im), .d (.sl false (f_.Buses.map eSBus))], .box [.d (.int .i64 time_)]] f74.ntmps 0) (fun v51 => m_impl_DarkBuses_j4 n f_ list_ time_ v51 = some r) ?_ (fun hk53 => ?_)
    · rintro v51 h
      replace h : m_impl_DarkBuses_j4 n f_ list_ time_ v51 = some r := h
      unfold m_impl_DarkBuses_j4 at h
      refine aw_cond rfl (fun hc52 => ?_) (fun hc52 => ?_)
      · have h := if_bt h hc52
        refine aw_seq ?_
        refine aw_region ?_
        refine awl_val hτ rfl rfl rfl ?_
        refine awl_val hτ rfl rfl rfl ?_
        refine awl_nil ?_
        refine aw_weak (weak_ofP [] (l := [(6, .d (.nils)), (7, .d (.bool false))]) (objs := []) rfl (by simp) rfl (by repeat' first | exact trivial | refine ⟨?_, ?_⟩) ⟨rfl, trivial, rfl, trivial, trivial⟩) ?_
        refine aw_weak (weak_relax [1] (l' := [(6, .row 0 (([] : List Int).length) 0 (([] : List Int).length)), (7, .d (.bool false))]) (objs' := []) (.cons (.c (.ghost ⟨Nat.le_of_ble_eq_true rfl, Nat.le_of_ble_eq_true rfl⟩)) (.cons (.c (.refl _)) .nil)) .nil) ?_
        refine aw_ret ?_
        have hr := Option.some.inj h
        subst hr
        exact ret_objs (.inr rfl) [0] (objs' := []) (new := [.row 1 (([] : List Int).map eInti64)]) rfl (by simp) (by simp) rfl (by repeat' first | exact trivial | refine ⟨?_, ?_⟩) rfl rfl (by repeat' first | exact trivial | refine ⟨?_, ?_⟩) (fun _ => ⟨by simp [V.flat, V.flatA, V.flatC, D.flat], (flat_cons (flat_row eInti64_flat _) flat_nil)⟩) ⟨rfl, rfl, rfl⟩
      · have h := if_bf h hc52
        refine aw_skip ?_
        refine aw_weak (weak_ofP [0, 1] (l := [(1, .d (.sl false (list_.map eSOutage))), (3, .ptr 0 0), (5, .ptr 1 0)]) (objs := [.box [.d (.cx .f32 f_.Source.A.re f_.Source.A.im), .d (.cx .f32 f_.Source.B.re f_.Source.B.im), .d (.cx .f32 f_.Source.C.re f_.Source.C.im), .d (.sl false (f_.Buses.map eSBus))], .box [.d (.int .i64 time_)]]) rfl (by simp) rfl (by repeat' first | exact trivial | refine ⟨?_, ?_⟩) ⟨rfl, trivial, rfl, trivial, rfl, trivial, trivial⟩) ?_
        exact hk46 () h
    · refine aw_seq ?_
      refine aw_region ?_
      refine awl_val hτ rfl rfl rfl ?_
      refine awl_val hτ rfl rfl rfl ?_
      refine bnd_elim h fun x54 hx54 h => ?_
      refine awl_callP hτ false [] rfl rfl rfl (enterOk func81 rfl rfl) rfl rfl (by simp) ⟨(by repeat' first | exact trivial | refine ⟨?_, ?_⟩), trivial, trivial⟩ (by repeat' first | exact trivial | refine ⟨?_, ?_⟩) (impl_AreOutages_ok n f_ list_ hx54) ?_
      rintro r0 o0 n0 ⟨rfl, rfl, rfl⟩ -
      refine awl_val hτ rfl rfl rfl ?_
      refine awl_val hτ rfl rfl rfl ?_
      refine awl_split 15 rfl (fun hb55 => ?_) (fun hb55 => ?_)
      · have hb55 := not_t hb55
        have h := if_bf h hb55
        refine awl_skip rfl rfl ?_
        refine awl_skip rfl rfl ?_
        refine awl_skip rfl rfl ?_
        refine awl_weak (weak_ofP [0, 1] (l := [(1, .d (.sl false (list_.map eSOutage))), (3, .ptr 0 0), (5, .ptr 1 0), (15, .d (.bool true)), (18, .und)]) (objs := [.box [.d (.cx .f32 f_.Source.A.re f_.Source.A.im), .d (.cx .f32 f_.Source.B.re f_.Source.B.im), .d (.cx .f32 f_.Source.C.re f_.Source.C.im), .d (.sl false (f_.Buses.map eSBus))], .box [.d (.int .i64 time_)]]) rfl (by simp) rfl (by repeat' first | exact trivial | refine ⟨?_, ?_⟩) ⟨rfl, trivial, rfl, trivial, rfl, trivial, rfl, trivial, rfl, trivial, trivial⟩) ?_
        refine awl_val hτ rfl rfl rfl ?_
        refine awl_nil ?_
        refine aw_weak (weak_ofP [0, 1] (l := [(1, .d (.sl false (list_.map eSOutage))), (3, .ptr 0 0), (5, .ptr 1 0), (19, .d (.bool true))]) (objs := [.box [.d (.cx .f32 f_.Source.A.re f_.Source.A.im), .d (.cx .f32 f_.Source.B.re f_.Source.B.im), .d (.cx .f32 f_.Source.C.re f_.Source.C.im), .d (.sl false (f_.Buses.map eSBus))], .box [.d (.int .i64 time_)]]) rfl (by simp) rfl (by repeat' first | exact trivial | refine ⟨?_, ?_⟩) ⟨rfl, trivial, rfl, trivial, rfl, trivial, rfl, trivial, trivial⟩) ?_
        exact hk53 true h
      · have hb55 := not_f hb55
        have h := if_bt h hb55
        refine awl_val hτ rfl rfl rfl ?_
        refine bnd_elim h fun x56 hx56 h => ?_
        refine awl_callP hτ false [] rfl rfl rfl (enterOk func109 rfl rfl) rfl rfl (by simp) ⟨trivial, trivial, trivial, trivial⟩ (by repeat' first | exact trivial | refine ⟨?_, ?_⟩) (impl_in_ok n time_ (0 : Int) (99999 : Int) hx56) ?_
        rintro r0 o0 n0 ⟨rfl, rfl, rfl⟩ -
        refine awl_val hτ rfl rfl rfl ?_
        refine awl_weak (weak_ofP [0, 1] (l := [(1, .d (.sl false (list_.map eSOutage))), (3, .ptr 0 0), (5, .ptr 1 0), (15, .d (.bool false)), (18, .d (.bool (!x56)))]) (objs := [.box [.d (.cx .f32 f_.Source.A.re f_.Source.A.im), .d (.cx .f32 f_.Source.B.re f_.Source.B.im), .d (.cx .f32 f_.Source.C.re f_.Source.C.im), .d (.sl false (f_.Buses.map eSBus))], .box [.d (.int .i64 time_)]]) rfl (by simp) rfl (by repeat' first | exact trivial | refine ⟨?_, ?_⟩) ⟨rfl, trivial, rfl, trivial, rfl, trivial, rfl, trivial, rfl, trivial, trivial⟩) ?_
        refine awl_val hτ rfl rfl rfl ?_
        refine awl_nil ?_
        refine aw_weak (weak_ofP [0, 1] (l := [(1, .d (.sl false (list_.map eSOutage))), (3, .ptr 0 0), (5, .ptr 1 0), (19, .d (.bool (!x56)))]) (objs := [.box [.d (.cx .f32 f_.Source.A.re f_.Source.A.im), .d (.cx .f32 f_.Source.B.re f_.Source.B.im), .d (.cx .f32 f_.Source.C.re f_.Source.C.im), .d (.sl false (f_.Buses.map eSBus))], .box [.d (.int .i64 time_)]]) rfl (by simp) rfl (by repeat' first | exact trivial | refine ⟨?_, ?_⟩) ⟨rfl, trivial, rfl, trivial, rfl, trivial, rfl, trivial, trivial⟩) ?_
        exact hk53 (!x56) h
theorem impl_DarkBuses_ok (n : Nat) (f_ : SFeeder) (list_ : List SOutage) (time_ : Int) {r : List Int × Bool} (h : m_impl_DarkBuses n f_ list_ time_ = some r) : ACall prog false 74 [.agg [.d (.cx .f32 f_.Source.A.re f_.Source.A.im), .d (.cx .f32 f_.Source.B.re f_.Source.B.im), .d (.cx .f32 f_.Source.C.re f_.Source.C.im), .d (.sl false (f_.Buses.map eSBus))], .d (.sl false (list_.map eSOutage)), .d (.int .i64 time_)] [] (fun v o new => v = .tup [.row 0 r.1.length 0 r.1.length, .d (.bool r.2)] ∧ o = [] ∧ new = [.row 1 (r.1.map eInti64)]) := impl_DarkBuses_ok_fr0 false n f_ list_ time_ h
theorem impl_DarkBuses_ok_fr (n : Nat) (f_ : SFeeder) (list_ : List SOutage) (time_ : Int) {r : List Int × Bool} (h : m_impl_DarkBuses n f_ list_ time_ = some r) : ACall prog true 74 [.agg [.d (.cx .f32 f_.Source.A.re f_.Source.A.im), .d (.cx .f32 f_.Source.B.re f_.Source.B.im), .d (.cx .f32 f_.Source.C.re f_.Source.C.im), .d (.sl false (f_.Buses.map eSBus))], .d (.sl false (list_.map eSOutage)), .d (.int .i64 time_)] [] (fun v o new => v = .tup [.row 0 r.1.length 0 r.1.length, .d (.bool r.2)] ∧ o = [] ∧ new = [.row 1 (r.1.map eInti64)]) := impl_DarkBuses_ok_fr0 true n f_ list_ time_ h

def m_laws_b10Has_l1 (n : Nat) (list_ : List Int) (n_ : Int) : Nat → Int → Option Bool
  | 0, _ => none
  | m9 + 1, v6 =>
    if v6 < (list_.length : Int) then
      (getI list_ v6).bind fun x13 =>
      if x13 = n_ then
        some true
      else
        (m_laws_b10Has_l1 n list_ n_ m9) (w64 (v6 + (1 : Int)))
    else
      some false
def m_laws_b10Has (n : Nat) (list_ : List Int) (n_ : Int) : Option Bool :=
  m_laws_b10Has_l1 n list_ n_ n (0 : Int)
theorem laws_b10Has_ok_fr0 (fr : Bool) (n : Nat) (list_ : List Int) (n_ : Int) {r : Bool} (h : m_laws_b10Has n list_ n_ = some r) : ACall prog fr 49 [.d (.sl false (list_.map eInti64)), .d (.int .i64 n_)] [] (fun v o new => v = .d (.bool r) ∧ o = [] ∧ new = []) := by
  refine acall_of_aw hτ func49 rfl (by simp) (by simp) ?_
  unfold m_laws_b10Has at h
  refine aw_seq ?_
  refine aw_region ?_
  refine awl_val hτ rfl rfl rfl ?_
  refine awl_nil ?_
  refine aw_seq ?_
  refine aw_seq ?_
  refine aw_region ?_
  refine awl_val hτ rfl rfl rfl ?_
  refine awl_val hτ (v := .d (.int .i64 (list_.length : Int))) rfl rfl (Eq.trans rfl (or_len (f := eInti64) list_)) ?_
  refine awl_val hτ rfl rfl rfl ?_
  refine awl_nil ?_
  refine aw_block ?_
  refine aw_loop (ι := Nat × Int) (fun (m9, v6) => St.of [(0, .d (.sl false (list_.map eInti64))), (1, .d (.int .i64 n_)), (7, .d (.int .i64 (list_.length : Int))), (8, .d (.int .i64 v6))] [] f49.ntmps 0) (fun (m9, v6) => m_laws_b10Has_l1 n list_ n_ m9 v6 = some r) (fun x => x.1) (n, (0 : Int)) h (weak_ofP [] (l := [(0, .d (.sl false (list_.map eInti64))), (1, .d (.int .i64 n_)), (7, .d (.int .i64 (list_.length : Int))), (8, .d (.int .i64 (0 : Int)))]) (objs := []) rfl (by simp) rfl (by repeat' first | exact trivial | refine ⟨?_, ?_⟩) ⟨rfl, trivial, rfl, trivial, rfl, trivial, rfl, trivial, trivial⟩) ?_
  rintro ⟨m9, v6⟩ h
  replace h : m_laws_b10Has_l1 n list_ n_ m9 v6 = some r := h
  rcases m9 with _ | m9
  · rw [m_laws_b10Has_l1] at h; cases h
  rw [m_laws_b10Has_l1] at h
  refine aw_seq ?_
  refine aw_region ?_
  refine awl_val hτ rfl rfl rfl ?_
  refine awl_nil ?_
  refine aw_seq ?_
  refine aw_cond rfl (fun hc11 => ?_) (fun hc11 => ?_)
  · have h := if_t h hc11
    refine aw_skip ?_
    refine aw_seq ?_
    refine aw_block ?_
    refine aw_seq ?_
    refine aw_region ?_
    refine awl_val hτ rfl rfl rfl ?_
    refine awl_val hτ rfl rfl rfl ?_
    refine awl_nil ?_
    refine aw_seq ?_
    refine aw_region ?_
    refine awl_val hτ rfl rfl rfl ?_
    refine awl_val hτ rfl rfl rfl ?_
    refine bnd_elim h fun x13 hx13 h => ?_
    refine awl_elem hτ rfl rfl rfl (getI_some hx13).1 (map_getI hx13) rfl ?_
    refine awl_val hτ rfl rfl rfl ?_
    refine awl_val hτ rfl rfl rfl ?_
    refine awl_val hτ (v := .d (.bool (decide (x13 = n_)))) rfl rfl (or_ieq _ _) ?_
    refine awl_nil ?_
    refine aw_weak (weak_ofP [] (l := [(0, .d (.sl false (list_.map eInti64))), (1, .d (.int .i64 n_)), (7, .d (.int .i64 (list_.length : Int))), (8, .d (.int .i64 v6)), (16, .d (.bool (decide (x13 = n_))))]) (objs := []) rfl (by simp) rfl (by repeat' first | exact trivial | refine ⟨?_, ?_⟩) ⟨rfl, trivial, rfl, trivial, rfl, trivial, rfl, trivial, rfl, trivial, trivial⟩) ?_
    refine aw_cond rfl (fun hc14 => ?_) (fun hc14 => ?_)
    · have h := if_t h hc14
      refine aw_seq ?_
      refine aw_region ?_
      refine awl_val hτ rfl rfl rfl ?_
      refine awl_nil ?_
      refine aw_weak (weak_ofP [] (l := [(4, .d (.bool true))]) (objs := []) rfl (by simp) rfl (by repeat' first | exact trivial | refine ⟨?_, ?_⟩) ⟨rfl, trivial, trivial⟩) ?_
      refine aw_ret ?_
      have hr := Option.some.inj h
      subst hr
      exact ret_objs (.inr rfl) [] (objs' := []) (new := []) rfl (by simp) (by simp) rfl (by repeat' first | exact trivial | refine ⟨?_, ?_⟩) rfl rfl (by repeat' first | exact trivial | refine ⟨?_, ?_⟩) (fun _ => ⟨by simp [V.flat, V.flatA, V.flatC, D.flat], flat_nil⟩) ⟨rfl, rfl, rfl⟩
    · have h := if_f h hc14
      refine aw_skip ?_
      refine aw_region ?_
      refine awl_val hτ rfl rfl rfl ?_
      refine awl_val hτ rfl rfl rfl ?_
      refine awl_nil ?_
      exact ⟨(m9, (w64 (v6 + (1 : Int)))), h, Nat.lt_succ_self m9, (weak_ofP [] (l := [(0, .d (.sl false (list_.map eInti64))), (1, .d (.int .i64 n_)), (7, .d (.int .i64 (list_.length : Int))), (8, .d (.int .i64 (w64 (v6 + (1 : Int)))))]) (objs := []) rfl (by simp) rfl (by repeat' first | exact trivial | refine ⟨?_, ?_⟩) ⟨rfl, trivial, rfl, trivial, rfl, trivial, rfl, trivial, trivial⟩)⟩
  · have h := if_f h hc11
    refine aw_exit ?_
    refine aw_seq ?_
    refine aw_region ?_
    refine awl_val hτ rfl rfl rfl ?_
    refine awl_nil ?_
    refine aw_weak (weak_ofP [] (l := [(4, .d (.bool false))]) (objs := []) rfl (by simp) rfl (by repeat' first | exact trivial | refine ⟨?_, ?_⟩) ⟨rfl, trivial, trivial⟩) ?_
    refine aw_ret ?_
    have hr := Option.some.inj h
    subst hr
    exact ret_objs (.inr rfl) [] (objs' := []) (new := []) rfl (by simp) (by simp) rfl (by repeat' first | exact trivial | refine ⟨?_, ?_⟩) rfl rfl (by repeat' first | exact trivial | refine ⟨?_, ?_⟩) (fun _ => ⟨by simp [V.flat, V.flatA, V.flatC, D.flat], flat_nil⟩) ⟨rfl, rfl, rfl⟩
theorem laws_b10Has_ok (n : Nat) (list_ : List Int) (n_ : Int) {r : Bool} (h : m_laws_b10Has n list_ n_ = some r) : ACall prog false 49 [.d (.sl false (list_.map eInti64)), .d (.int .i64 n_)] [] (fun v o new => v = .d (.bool r) ∧ o = [] ∧ new = []) := laws_b10Has_ok_fr0 false n list_ n_ h
theorem laws_b10Has_ok_fr (n : Nat) (list_ : List Int) (n_ : Int) {r : Bool} (h : m_laws_b10Has n list_ n_ = some r) : ACall prog true 49 [.d (.sl false (list_.map eInti64)), .d (.int .i64 n_)] [] (fun v o new => v = .d (.bool r) ∧ o = [] ∧ new = []) := laws_b10Has_ok_fr0 true n list_ n_ h

def m_impl_Feeder_has (n : Nat) (f_ : SFeeder) (bus_ : Int) : Option Bool :=
  (m_impl_ValidFeeder n f_).bind fun x5 =>
  if x5 = true then
    (m_impl_in n bus_ (0 : Int) (w64 ((f_.Buses.length : Int) - (1 : Int)))).bind fun x7 =>
    some x7
  else
    some false
theorem impl_Feeder_has_ok (n : Nat) (f_ : SFeeder) (bus_ : Int) {r : Bool} (h : m_impl_Feeder_has n f_ bus_ = some r) : ACall prog false 128 [.ptr 0 0, .d (.int .i64 bus_)] [.box [.d (.cx .f32 f_.Source.A.re f_.Source.A.im), .d (.cx .f32 f_.Source.B.re f_.Source.B.im), .d (.cx .f32 f_.Source.C.re f_.Source.C.im), .d (.sl false (f_.Buses.map eSBus))]] (fun v o new => v = .d (.bool r) ∧ o = [.box [.d (.cx .f32 f_.Source.A.re f_.Source.A.im), .d (.cx .f32 f_.Source.B.re f_.Source.B.im), .d (.cx .f32 f_.Source.C.re f_.Source.C.im), .d (.sl false (f_.Buses.map eSBus))]] ∧ new = []) := by
  refine acall_of_aw hτ func128 rfl (by simp) (by simp) ?_
  unfold m_impl_Feeder_has at h
  refine aw_seq ?_
  refine aw_region ?_
  refine awl_val hτ rfl rfl rfl ?_
  refine awl_nil ?_
  refine aw_seq ?_
  refine aw_region ?_
  refine awl_val hτ rfl rfl rfl ?_
  refine awl_val hτ rfl rfl rfl ?_
  refine awl_val hτ rfl rfl rfl ?_
  refine bnd_elim h fun x5 hx5 h => ?_
  refine awl_callP hτ false [] rfl rfl rfl (enterOk func111 rfl rfl) rfl rfl (by simp) ⟨(by repeat' first | exact trivial | refine ⟨?_, ?_⟩), trivial⟩ (by repeat' first | exact trivial | refine ⟨?_, ?_⟩) (impl_ValidFeeder_ok n f_ hx5) ?_
  rintro r0 o0 n0 ⟨rfl, rfl, rfl⟩ -
  refine awl_val hτ rfl rfl rfl ?_
  refine awl_split 9 rfl (fun hb6 => ?_) (fun hb6 => ?_)
  · have h := if_bt h hb6
    refine awl_val hτ rfl rfl rfl ?_
    refine awl_val hτ rfl rfl rfl ?_
    refine awl_val hτ rfl rfl rfl ?_
    refine awl_val hτ rfl rfl rfl ?_
    refine awl_val hτ rfl rfl rfl ?_
    refine awl_val hτ (v := .d (.int .i64 (f_.Buses.length : Int))) rfl rfl (Eq.trans rfl (or_len (f := eSBus) f_.Buses)) ?_
    refine awl_weak (weak_ofP [0] (l := [(4, .d (.bool false)), (9, .d (.bool true)), (10, .d (.int .i64 bus_)), (15, .d (.int .i64 (f_.Buses.length : Int)))]) (objs := [.box [.d (.cx .f32 f_.Source.A.re f_.Source.A.im), .d (.cx .f32 f_.Source.B.re f_.Source.B.im), .d (.cx .f32 f_.Source.C.re f_.Source.C.im), .d (.sl false (f_.Buses.map eSBus))]]) rfl (by simp) rfl (by repeat' first | exact trivial | refine ⟨?_, ?_⟩) ⟨rfl, trivial, rfl, trivial, rfl, trivial, rfl, trivial, trivial⟩) ?_
    refine awl_val hτ rfl rfl rfl ?_
    refine bnd_elim h fun x7 hx7 h => ?_
    refine awl_callP hτ false [] rfl rfl rfl (enterOk func109 rfl rfl) rfl rfl (by simp) ⟨trivial, trivial, trivial, trivial⟩ (by repeat' first | exact trivial | refine ⟨?_, ?_⟩) (impl_in_ok n bus_ (0 : Int) (w64 ((f_.Buses.length : Int) - (1 : Int))) hx7) ?_
    rintro r0 o0 n0 ⟨rfl, rfl, rfl⟩ -
    refine awl_val hτ rfl rfl rfl ?_
    refine awl_val hτ rfl rfl rfl ?_
    refine awl_nil ?_
    refine aw_weak (weak_ofP [0] (l := [(4, .d (.bool x7))]) (objs := [.box [.d (.cx .f32 f_.Source.A.re f_.Source.A.im), .d (.cx .f32 f_.Source.B.re f_.Source.B.im), .d (.cx .f32 f_.Source.C.re f_.Source.C.im), .d (.sl false (f_.Buses.map eSBus))]]) rfl (by simp) rfl (by repeat' first | exact trivial | refine ⟨?_, ?_⟩) ⟨rfl, trivial, trivial⟩) ?_
    refine aw_ret ?_
    have hr := Option.some.inj h
    subst hr
    exact ret_objs (.inr rfl) [] (objs' := [.box [.d (.cx .f32 f_.Source.A.re f_.Source.A.im), .d (.cx .f32 f_.Source.B.re f_.Source.B.im), .d (.cx .f32 f_.Source.C.re f_.Source.C.im), .d (.sl false (f_.Buses.map eSBus))]]) (new := []) rfl (by simp) (by simp) rfl (by repeat' first | exact trivial | refine ⟨?_, ?_⟩) rfl rfl (by repeat' first | exact trivial | refine ⟨?_, ?_⟩) (fun h => nomatch h) ⟨rfl, rfl, rfl⟩
  · have h := if_bf h hb6
    refine awl_skip rfl rfl ?_
    refine awl_skip rfl rfl ?_
    refine awl_skip rfl rfl ?_
    refine awl_skip rfl rfl ?_
    refine awl_skip rfl rfl ?_
    refine awl_skip rfl rfl ?_
    refine awl_weak (weak_ofP [0] (l := [(4, .d (.bool false)), (9, .d (.bool false)), (10, .und), (15, .und)]) (objs := [.box [.d (.cx .f32 f_.Source.A.re f_.Source.A.im), .d (.cx .f32 f_.Source.B.re f_.Source.B.im), .d (.cx .f32 f_.Source.C.re f_.Source.C.im), .d (.sl false (f_.Buses.map eSBus))]]) rfl (by simp) rfl (by repeat' first | exact trivial | refine ⟨?_, ?_⟩) ⟨rfl, trivial, rfl, trivial, rfl, trivial, rfl, trivial, trivial⟩) ?_
    refine awl_skip rfl rfl ?_
    refine awl_skip rfl rfl ?_
    refine awl_val hτ rfl rfl rfl ?_
    refine awl_val hτ rfl rfl rfl ?_
    refine awl_nil ?_
    refine aw_weak (weak_ofP [0] (l := [(4, .d (.bool false))]) (objs := [.box [.d (.cx .f32 f_.Source.A.re f_.Source.A.im), .d (.cx .f32 f_.Source.B.re f_.Source.B.im), .d (.cx .f32 f_.Source.C.re f_.Source.C.im), .d (.sl false (f_.Buses.map eSBus))]]) rfl (by simp) rfl (by repeat' first | exact trivial | refine ⟨?_, ?_⟩) ⟨rfl, trivial, trivial⟩) ?_
    refine aw_ret ?_
    have hr := Option.some.inj h
    subst hr
    exact ret_objs (.inr rfl) [] (objs' := [.box [.d (.cx .f32 f_.Source.A.re f_.Source.A.im), .d (.cx .f32 f_.Source.B.re f_.Source.B.im), .d (.cx .f32 f_.Source.C.re f_.Source.C.im), .d (.sl false (f_.Buses.map eSBus))]]) (new := []) rfl (by simp) (by simp) rfl (by repeat' first | exact trivial | refine ⟨?_, ?_⟩) rfl rfl (by repeat' first | exact trivial | refine ⟨?_, ?_⟩) (fun h => nomatch h) ⟨rfl, rfl, rfl⟩

def m_bits_Len64_j3 (n : Nat) (v18 : Int) (v19 : Int) : Option Int :=
  (getI ([0, 1, 2, 2, 3, 3, 3, 3, 4, 4, 4, 4, 4, 4, 4, 4, 5, 5, 5, 5, 5, 5, 5, 5, 5, 5, 5, 5, 5, 5, 5, 5, 6, 6, 6, 6, 6, 6, 6, 6, 6, 6, 6, 6, 6, 6, 6, 6, 6, 6, 6, 6, 6, 6, 6, 6, 6, 6, 6, 6, 6, 6, 6, 6, 7, 7, 7, 7, 7, 7, 7, 7, 7, 7, 7, 7, 7, 7, 7, 7, 7, 7, 7, 7, 7, 7, 7, 7, 7, 7, 7, 7, 7, 7, 7, 7, 7, 7, 7, 7, 7, 7, 7, 7, 7, 7, 7, 7, 7, 7, 7, 7, 7, 7, 7, 7, 7, 7, 7, 7, 7, 7, 7, 7, 7, 7, 7, 7, 8, 8, 8, 8, 8, 8, 8, 8, 8, 8, 8, 8, 8, 8, 8, 8, 8, 8, 8, 8, 8, 8, 8, 8, 8, 8, 8, 8, 8, 8, 8, 8, 8, 8, 8, 8, 8, 8, 8, 8, 8, 8, 8, 8, 8, 8, 8, 8, 8, 8, 8, 8, 8, 8, 8, 8, 8, 8, 8, 8, 8, 8, 8, 8, 8, 8, 8, 8, 8, 8, 8, 8, 8, 8, 8, 8, 8, 8, 8, 8, 8, 8, 8, 8, 8, 8, 8, 8, 8, 8, 8, 8, 8, 8, 8, 8, 8, 8, 8, 8, 8, 8, 8, 8, 8, 8, 8, 8, 8, 8, 8, 8, 8, 8, 8, 8, 8, 8, 8, 8, 8, 8, 8, 8, 8, 8, 8, 8] : Str) (IntKind.wrap .u8 (v18))).bind fun x20 =>
  some (w64 (v19 + (w64 ((x20.toNat : Int)))))
def m_bits_Len64_j2 (n : Nat) (v14 : Int) (v15 : Int) : Option Int :=
  if v14 ≥ (256 : Int) then
    m_bits_Len64_j3 n (v14.fdiv (2 ^ min (8 : Int).toNat (IntKind.bits .u64))) (w64 (v15 + (8 : Int)))
  else
    m_bits_Len64_j3 n v14 v15
def m_bits_Len64_j1 (n : Nat) (v10 : Int) (v11 : Int) : Option Int :=
  if v10 ≥ (65536 : Int) then
    m_bits_Len64_j2 n (v10.fdiv (2 ^ min (16 : Int).toNat (IntKind.bits .u64))) (w64 (v11 + (16 : Int)))
  else
    m_bits_Len64_j2 n v10 v11
def m_bits_Len64 (n : Nat) (x_ : Int) : Option Int :=
  if x_ ≥ (4294967296 : Int) then
    m_bits_Len64_j1 n (x_.fdiv (2 ^ min (32 : Int).toNat (IntKind.bits .u64))) (32 : Int)
  else
    m_bits_Len64_j1 n x_ (0 : Int)
theorem bits_Len64_ok_fr0 (fr : Bool) (n : Nat) (x_ : Int) {r : Int} (h : m_bits_Len64 n x_ = some r) : ACall prog fr 338 [.d (.int .u64 x_)] [] (fun v o new => v = .d (.int .i64 r) ∧ o = [] ∧ new = []) := by
  refine acall_of_aw hτ func338 rfl (by simp) (by simp) ?_
  unfold m_bits_Len64 at h
  refine aw_seq ?_
  refine aw_region ?_
  refine awl_val hτ rfl rfl rfl ?_
  refine awl_nil ?_
  refine aw_hk1 (ι := Int × Int) (fun (v10, v11) => St.of [(0, .d (.int .u64 v10)), (2, .d (.int .i64 v11))] [] f338.ntmps 0) (fun (v10, v11) => m_bits_Len64_j1 n v10 v11 = some r) ?_ (fun hk25 => ?_)
  · rintro ⟨v10, v11⟩ h
    replace h : m_bits_Len64_j1 n v10 v11 = some r := h
    unfold m_bits_Len64_j1 at h
    refine aw_hk1 (ι := Int × Int) (fun (v14, v15) => St.of [(0, .d (.int .u64 v14)), (2, .d (.int .i64 v15))] [] f338.ntmps 0) (fun (v14, v15) => m_bits_Len64_j2 n v14 v15 = some r) ?_ (fun hk23 => ?_)
    · rintro ⟨v14, v15⟩ h
      replace h : m_bits_Len64_j2 n v14 v15 = some r := h
      unfold m_bits_Len64_j2 at h
      refine aw_hk1 (ι := Int × Int) (fun (v18, v19) => St.of [(0, .d (.int .u64 v18)), (2, .d (.int .i64 v19))] [] f338.ntmps 0) (fun (v18, v19) => m_bits_Len64_j3 n v18 v19 = some r) ?_ (fun hk21 => ?_)
      · rintro ⟨v18, v19⟩ h
        replace h : m_bits_Len64_j3 n v18 v19 = some r := h
        unfold m_bits_Len64_j3 at h
        refine aw_seq ?_
        refine aw_region ?_
        refine awl_val hτ rfl rfl rfl ?_
        refine awl_val hτ rfl rfl rfl ?_
        refine awl_val hτ rfl rfl rfl ?_
        refine bnd_elim h fun x20 hx20 h => ?_
        refine awl_need hτ (v := .d (.int .u8 (x20.toNat : Int))) rfl rfl (Eq.trans rfl (or_sidx hx20)) (sidx_need hx20) ?_
        refine awl_val hτ rfl rfl rfl ?_
        refine awl_val hτ rfl rfl rfl ?_
        refine awl_val hτ rfl rfl rfl ?_
        refine awl_nil ?_
        refine aw_weak (weak_ofP [] (l := [(2, .d (.int .i64 (w64 (v19 + (w64 ((x20.toNat : Int)))))))]) (objs := []) rfl (by simp) rfl (by repeat' first | exact trivial | refine ⟨?_, ?_⟩) ⟨rfl, trivial, trivial⟩) ?_
        refine aw_ret ?_
        have hr := Option.some.inj h
        subst hr
        exact ret_objs (.inr rfl) [] (objs' := []) (new := []) rfl (by simp) (by simp) rfl (by repeat' first | exact trivial | refine ⟨?_, ?_⟩) rfl rfl (by repeat' first | exact trivial | refine ⟨?_, ?_⟩) (fun _ => ⟨by simp [V.flat, V.flatA, V.flatC, D.flat], flat_nil⟩) ⟨rfl, rfl, rfl⟩
      · refine aw_seq ?_
        refine aw_seq ?_
        refine aw_region ?_
        refine awl_val hτ rfl rfl rfl ?_
        refine awl_val hτ rfl rfl rfl ?_
        refine awl_nil ?_
        refine aw_cond rfl (fun hc22 => ?_) (fun hc22 => ?_)
        · have h := if_t h hc22
          refine aw_seq ?_
          refine aw_region ?_
          refine awl_val hτ rfl rfl rfl ?_
          refine awl_need hτ rfl rfl rfl (by decide) ?_
          refine awl_val hτ rfl rfl rfl ?_
          refine awl_nil ?_
          refine aw_region ?_
          refine awl_val hτ rfl rfl rfl ?_
          refine awl_val hτ rfl rfl rfl ?_
          refine awl_val hτ rfl rfl rfl ?_
          refine awl_nil ?_
          refine aw_weak (weak_ofP [] (l := [(0, .d (.int .u64 (v14.fdiv (2 ^ min (8 : Int).toNat (IntKind.bits .u64))))), (2, .d (.int .i64 (w64 (v15 + (8 : Int)))))]) (objs := []) rfl (by simp) rfl (by repeat' first | exact trivial | refine ⟨?_, ?_⟩) ⟨rfl, trivial, rfl, trivial, trivial⟩) ?_
          exact hk21 ((v14.fdiv (2 ^ min (8 : Int).toNat (IntKind.bits .u64))), (w64 (v15 + (8 : Int)))) h
        · have h := if_f h hc22
          refine aw_skip ?_
          refine aw_weak (weak_ofP [] (l := [(0, .d (.int .u64 v14)), (2, .d (.int .i64 v15))]) (objs := []) rfl (by simp) rfl (by repeat' first | exact trivial | refine ⟨?_, ?_⟩) ⟨rfl, trivial, rfl, trivial, trivial⟩) ?_
          exact hk21 (v14, v15) h
    · refine aw_seq ?_
      refine aw_seq ?_
      refine aw_region ?_
      refine awl_val hτ rfl rfl rfl ?_
      refine awl_val hτ rfl rfl rfl ?_
      refine awl_nil ?_
      refine aw_cond rfl (fun hc24 => ?_) (fun hc24 => ?_)
      · have h := if_t h hc24
        refine aw_seq ?_
        refine aw_region ?_
        refine awl_val hτ rfl rfl rfl ?_
        refine awl_need hτ rfl rfl rfl (by decide) ?_
        refine awl_val hτ rfl rfl rfl ?_
        refine awl_nil ?_
        refine aw_region ?_
        refine awl_val hτ rfl rfl rfl ?_
        refine awl_val hτ rfl rfl rfl ?_
        refine awl_val hτ rfl rfl rfl ?_
        refine awl_nil ?_
        refine aw_weak (weak_ofP [] (l := [(0, .d (.int .u64 (v10.fdiv (2 ^ min (16 : Int).toNat (IntKind.bits .u64))))), (2, .d (.int .i64 (w64 (v11 + (16 : Int)))))]) (objs := []) rfl (by simp) rfl (by repeat' first | exact trivial | refine ⟨?_, ?_⟩) ⟨rfl, trivial, rfl, trivial, trivial⟩) ?_
        exact hk23 ((v10.fdiv (2 ^ min (16 : Int).toNat (IntKind.bits .u64))), (w64 (v11 + (16 : Int)))) h
      · have h := if_f h hc24
        refine aw_skip ?_
        refine aw_weak (weak_ofP [] (l := [(0, .d (.int .u64 v10)), (2, .d (.int .i64 v11))]) (objs := []) rfl (by simp) rfl (by repeat' first | exact trivial | refine ⟨?_, ?_⟩) ⟨rfl, trivial, rfl, trivial, trivial⟩) ?_
        exact hk23 (v10, v11) h
  · refine aw_seq ?_
    refine aw_seq ?_
    refine aw_region ?_
    refine awl_val hτ rfl rfl rfl ?_
    refine awl_val hτ rfl rfl rfl ?_
    refine awl_nil ?_
    refine aw_cond rfl (fun hc26 => ?_) (fun hc26 => ?_)
    · have h := if_t h hc26
      refine aw_seq ?_
      refine aw_region ?_
      refine awl_val hτ rfl rfl rfl ?_
      refine awl_need hτ rfl rfl rfl (by decide) ?_
      refine awl_val hτ rfl rfl rfl ?_
      refine awl_nil ?_
      refine aw_weak (weak_ofP [] (l := [(0, .d (.int .u64 (x_.fdiv (2 ^ min (32 : Int).toNat (IntKind.bits .u64)))))]) (objs := []) rfl (by simp) rfl (by repeat' first | exact trivial | refine ⟨?_, ?_⟩) ⟨rfl, trivial, trivial⟩) ?_
      refine aw_region ?_
      refine awl_val hτ rfl rfl rfl ?_
      refine awl_nil ?_
      refine aw_weak (weak_ofP [] (l := [(0, .d (.int .u64 (x_.fdiv (2 ^ min (32 : Int).toNat (IntKind.bits .u64))))), (2, .d (.int .i64 (32 : Int)))]) (objs := []) rfl (by simp) rfl (by repeat' first | exact trivial | refine ⟨?_, ?_⟩) ⟨rfl, trivial, rfl, trivial, trivial⟩) ?_
      exact hk25 ((x_.fdiv (2 ^ min (32 : Int).toNat (IntKind.bits .u64))), (32 : Int)) h
    · have h := if_f h hc26
      refine aw_skip ?_
      refine aw_weak (weak_ofP [] (l := [(0, .d (.int .u64 x_)), (2, .d (.int .i64 (0 : Int)))]) (objs := []) rfl (by simp) rfl (by repeat' first | exact trivial | refine ⟨?_, ?_⟩) ⟨rfl, trivial, rfl, trivial, trivial⟩) ?_
      exact hk25 (x_, (0 : Int)) h
theorem bits_Len64_ok (n : Nat) (x_ : Int) {r : Int} (h : m_bits_Len64 n x_ = some r) : ACall prog false 338 [.d (.int .u64 x_)] [] (fun v o new => v = .d (.int .i64 r) ∧ o = [] ∧ new = []) := bits_Len64_ok_fr0 false n x_ h
theorem bits_Len64_ok_fr (n : Nat) (x_ : Int) {r : Int} (h : m_bits_Len64 n x_ = some r) : ACall prog true 338 [.d (.int .u64 x_)] [] (fun v o new => v = .d (.int .i64 r) ∧ o = [] ∧ new = []) := bits_Len64_ok_fr0 true n x_ h

def m_bits_Len (n : Nat) (x_ : Int) : Option Int :=
  (m_bits_Len64 n x_).bind fun x2 =>
  some x2
theorem bits_Len_ok_fr0 (fr : Bool) (n : Nat) (x_ : Int) {r : Int} (h : m_bits_Len n x_ = some r) : ACall prog fr 277 [.d (.int .u64 x_)] [] (fun v o new => v = .d (.int .i64 r) ∧ o = [] ∧ new = []) := by
  refine acall_of_aw hτ func277 rfl (by simp) (by simp) ?_
  unfold m_bits_Len at h
  refine aw_seq ?_
  refine aw_region ?_
  refine awl_val hτ rfl rfl rfl ?_
  refine awl_nil ?_
  refine aw_seq ?_
  refine aw_cond (b := false) rfl (fun hd => nomatch hd) (fun _ => ?_)
  refine aw_skip ?_
  refine aw_seq ?_
  refine aw_region ?_
  refine awl_val hτ rfl rfl rfl ?_
  refine bnd_elim h fun x2 hx2 h => ?_
  refine awl_callP hτ false [] rfl rfl rfl (enterOk func338 rfl rfl) rfl rfl (by simp) ⟨trivial, trivial⟩ (by repeat' first | exact trivial | refine ⟨?_, ?_⟩) (bits_Len64_ok n x_ hx2) ?_
  rintro r0 o0 n0 ⟨rfl, rfl, rfl⟩ -
  refine awl_val hτ rfl rfl rfl ?_
  refine awl_nil ?_
  refine aw_weak (weak_ofP [] (l := [(2, .d (.int .i64 x2))]) (objs := []) rfl (by simp) rfl (by repeat' first | exact trivial | refine ⟨?_, ?_⟩) ⟨rfl, trivial, trivial⟩) ?_
  refine aw_ret ?_
  have hr := Option.some.inj h
  subst hr
  exact ret_objs (.inr rfl) [] (objs' := []) (new := []) rfl (by simp) (by simp) rfl (by repeat' first | exact trivial | refine ⟨?_, ?_⟩) rfl rfl (by repeat' first | exact trivial | refine ⟨?_, ?_⟩) (fun _ => ⟨by simp [V.flat, V.flatA, V.flatC, D.flat], flat_nil⟩) ⟨rfl, rfl, rfl⟩
theorem bits_Len_ok (n : Nat) (x_ : Int) {r : Int} (h : m_bits_Len n x_ = some r) : ACall prog false 277 [.d (.int .u64 x_)] [] (fun v o new => v = .d (.int .i64 r) ∧ o = [] ∧ new = []) := bits_Len_ok_fr0 false n x_ h
theorem bits_Len_ok_fr (n : Nat) (x_ : Int) {r : Int} (h : m_bits_Len n x_ = some r) : ACall prog true 277 [.d (.int .u64 x_)] [] (fun v o new => v = .d (.int .i64 r) ∧ o = [] ∧ new = []) := bits_Len_ok_fr0 true n x_ h

def m_impl_Feeder_dark_1 (n : Nat) (a_ : SOutage) (b_ : SOutage) : Option Int :=
  some (w64 (a_.From - b_.From))
theorem impl_Feeder_dark_1_ok_fr0 (fr : Bool) (n : Nat) (a_ : SOutage) (b_ : SOutage) {r : Int} (h : m_impl_Feeder_dark_1 n a_ b_ = some r) : ACall prog fr 265 [.agg [.d (.int .i64 a_.Bus), .d (.int .i64 a_.From), .d (.int .i64 a_.Until)], .agg [.d (.int .i64 b_.Bus), .d (.int .i64 b_.From), .d (.int .i64 b_.Until)]] [] (fun v o new => v = .d (.int .i64 r) ∧ o = [] ∧ new = []) := by
  refine acall_of_aw hτ func265 rfl (by simp) (by simp) ?_
  unfold m_impl_Feeder_dark_1 at h
  refine aw_seq ?_
  refine aw_region ?_
  refine awl_valH hτ rfl rfl rfl ?_
  refine awl_valH hτ rfl rfl rfl ?_
  refine awl_val hτ rfl rfl rfl ?_
  refine awl_nil ?_
  refine aw_seq ?_
  refine aw_region ?_
  refine awl_val hτ rfl rfl rfl ?_
  refine awl_val hτ rfl rfl rfl ?_
  refine awl_val hτ rfl rfl rfl ?_
  refine awl_val hτ rfl rfl rfl ?_
  refine awl_val hτ rfl rfl rfl ?_
  refine awl_val hτ rfl rfl rfl ?_
  refine awl_nil ?_
  refine aw_weak (weak_ofP [] (l := [(4, .d (.int .i64 (w64 (a_.From - b_.From))))]) (objs := []) rfl (by simp) rfl (by repeat' first | exact trivial | refine ⟨?_, ?_⟩) ⟨rfl, trivial, trivial⟩) ?_
  refine aw_ret ?_
  have hr := Option.some.inj h
  subst hr
  exact ret_objs (.inr rfl) [] (objs' := []) (new := []) rfl (by simp) (by simp) rfl (by repeat' first | exact trivial | refine ⟨?_, ?_⟩) rfl rfl (by repeat' first | exact trivial | refine ⟨?_, ?_⟩) (fun _ => ⟨by simp [V.flat, V.flatA, V.flatC, D.flat], flat_nil⟩) ⟨rfl, rfl, rfl⟩
theorem impl_Feeder_dark_1_ok (n : Nat) (a_ : SOutage) (b_ : SOutage) {r : Int} (h : m_impl_Feeder_dark_1 n a_ b_ = some r) : ACall prog false 265 [.agg [.d (.int .i64 a_.Bus), .d (.int .i64 a_.From), .d (.int .i64 a_.Until)], .agg [.d (.int .i64 b_.Bus), .d (.int .i64 b_.From), .d (.int .i64 b_.Until)]] [] (fun v o new => v = .d (.int .i64 r) ∧ o = [] ∧ new = []) := impl_Feeder_dark_1_ok_fr0 false n a_ b_ h
theorem impl_Feeder_dark_1_ok_fr (n : Nat) (a_ : SOutage) (b_ : SOutage) {r : Int} (h : m_impl_Feeder_dark_1 n a_ b_ = some r) : ACall prog true 265 [.agg [.d (.int .i64 a_.Bus), .d (.int .i64 a_.From), .d (.int .i64 a_.Until)], .agg [.d (.int .i64 b_.Bus), .d (.int .i64 b_.From), .d (.int .i64 b_.Until)]] [] (fun v o new => v = .d (.int .i64 r) ∧ o = [] ∧ new = []) := impl_Feeder_dark_1_ok_fr0 true n a_ b_ h

def m_slices_insertionSortCmpFunc_j2 (n : Nat) (k90 : List SOutage → Int → Option (List SOutage)) (v66 : Int) (v112 : List SOutage) : Option (List SOutage) :=
  k90 v112 (w64 (v66 + (1 : Int)))
def m_slices_insertionSortCmpFunc_j4 (n : Nat) (k135 : List SOutage → Int → Option (List SOutage)) (v122 : List SOutage) (v123 : Int) : Option (List SOutage) :=
  (getI v122 (w64 (v123 - (1 : Int)))).bind fun x141 =>
  (getI v122 v123).bind fun x142 =>
  (getI (v122.set v123.toNat x141) (w64 (v123 - (1 : Int)))).bind fun x143 =>
  k135 ((v122.set v123.toNat x141).set (w64 (v123 - (1 : Int))).toNat x142) (w64 (v123 - (1 : Int)))
def m_slices_insertionSortCmpFunc_j5 (n : Nat) (k90 : List SOutage → Int → Option (List SOutage)) (v66 : Int) (k135 : List SOutage → Int → Option (List SOutage)) (v122 : List SOutage) (v123 : Int) (v150 : Bool) : Option (List SOutage) :=
  if v150 = true then
    m_slices_insertionSortCmpFunc_j4 n k135 v122 v123
  else
    m_slices_insertionSortCmpFunc_j2 n k90 v66 v122
def m_slices_insertionSortCmpFunc_l3 (n : Nat) (a_ : Int) (k90 : List SOutage → Int → Option (List SOutage)) (v66 : Int) : Nat → List SOutage → Int → Option (List SOutage)
  | 0, _, _ => none
  | m134 + 1, v122, v123 =>
    if v123 > a_ then
      (getI v122 v123).bind fun x154 =>
      (getI v122 (w64 (v123 - (1 : Int)))).bind fun x155 =>
      (m_impl_Feeder_dark_1 n x154 x155).bind fun x156 =>
      m_slices_insertionSortCmpFunc_j5 n k90 v66 (m_slices_insertionSortCmpFunc_l3 n a_ k90 v66 m134) v122 v123 (decide (x156 < (0 : Int)))
    else
      m_slices_insertionSortCmpFunc_j5 n k90 v66 (m_slices_insertionSortCmpFunc_l3 n a_ k90 v66 m134) v122 v123 false
def m_slices_insertionSortCmpFunc_l1 (n : Nat) (a_ : Int) (b_ : Int) : Nat → List SOutage → Int → Option (List SOutage)
  | 0, _, _ => none
  | m89 + 1, v65, v66 =>
    if v66 < b_ then
      m_slices_insertionSortCmpFunc_l3 n a_ (m_slices_insertionSortCmpFunc_l1 n a_ b_ m89) v66 n v65 v66
    else
      some v65
def m_slices_insertionSortCmpFunc (n : Nat) (data_ : List SOutage) (a_ : Int) (b_ : Int) : Option (List SOutage) :=
  m_slices_insertionSortCmpFunc_l1 n a_ b_ n data_ (w64 (a_ + (1 : Int)))
theorem slices_insertionSortCmpFunc_ok_fr0 (fr : Bool) (n : Nat) (data_ : List SOutage) (a_ : Int) (b_ : Int) {r : List SOutage} (h : m_slices_insertionSortCmpFunc n data_ a_ b_ = some r) : ACall prog fr 354 [.row 0 data_.length 0 data_.length, .d (.int .i64 a_), .d (.int .i64 b_), .func 265 [] []] [.row 3 (data_.map eSOutage)] (fun v o new => v = .tup [] ∧ o = [.row 3 (r.map eSOutage)] ∧ new = []) := by
  refine acall_of_aw hτ func354 rfl (by simp) (by simp) ?_
  unfold m_slices_insertionSortCmpFunc at h
  refine aw_seq ?_
  refine aw_region ?_
  refine awl_val hτ rfl rfl rfl ?_
  refine awl_val hτ rfl rfl rfl ?_
  refine awl_val hτ rfl rfl rfl ?_
  refine awl_nil ?_
  refine aw_block ?_
  refine aw_loop (ι := Nat × List SOutage × Int) (fun (m89, v65, v66) => St.of [(0, .row 0 v65.length 0 v65.length), (1, .d (.int .i64 a_)), (2, .d (.int .i64 b_)), (3, .func 265 [] []), (8, .d (.int .i64 v66))] [.row 3 (v65.map eSOutage)] f354.ntmps 1) (fun (m89, v65, v66) => m_slices_insertionSortCmpFunc_l1 n a_ b_ m89 v65 v66 = some r) (fun x => x.1) (n, data_, (w64 (a_ + (1 : Int)))) h (weak_ofP [0] (l := [(0, .row 0 data_.length 0 data_.length), (1, .d (.int .i64 a_)), (2, .d (.int .i64 b_)), (3, .func 265 [] []), (8, .d (.int .i64 (w64 (a_ + (1 : Int)))))]) (objs := [.row 3 (data_.map eSOutage)]) rfl (by simp) rfl (by repeat' first | exact trivial | refine ⟨?_, ?_⟩) ⟨rfl, trivial, rfl, trivial, rfl, trivial, rfl, (by repeat' first | exact trivial | refine ⟨?_, ?_⟩), rfl, trivial, trivial⟩) ?_
  rintro ⟨m89, v65, v66⟩ h
  replace h : m_slices_insertionSortCmpFunc_l1 n a_ b_ m89 v65 v66 = some r := h
  rcases m89 with _ | m89
  · rw [m_slices_insertionSortCmpFunc_l1] at h; cases h
  rw [m_slices_insertionSortCmpFunc_l1] at h
  refine aw_seq ?_
  refine aw_seq ?_
  refine aw_region ?_
  refine awl_val hτ rfl rfl rfl ?_
  refine awl_val hτ rfl rfl rfl ?_
  refine awl_val hτ rfl rfl rfl ?_
  refine awl_nil ?_
  refine aw_cond rfl (fun hc91 => ?_) (fun hc91 => ?_)
  · have h := if_t h hc91
    refine aw_skip ?_
    refine aw_hk1 (ι := List SOutage) (fun v112 => St.of [(0, .row 0 v112.length 0 v112.length), (1, .d (.int .i64 a_)), (2, .d (.int .i64 b_)), (3, .func 265 [] []), (8, .d (.int .i64 v66))] [.row 3 (v112.map eSOutage)] f354.ntmps 1) (fun v112 => m_slices_insertionSortCmpFunc_j2 n (m_slices_insertionSortCmpFunc_l1 n a_ b_ m89) v66 v112 = some r) ?_ (fun hk113 => ?_)
    · rintro v112 h
      replace h : m_slices_insertionSortCmpFunc_j2 n (m_slices_insertionSortCmpFunc_l1 n a_ b_ m89) v66 v112 = some r := h
      unfold m_slices_insertionSortCmpFunc_j2 at h
      refine aw_region ?_
      refine awl_val hτ rfl rfl rfl ?_
      refine awl_val hτ rfl rfl rfl ?_
      refine awl_val hτ rfl rfl rfl ?_
      refine awl_nil ?_
      exact ⟨(m89, v112, (w64 (v66 + (1 : Int)))), h, Nat.lt_succ_self m89, (weak_ofP [0] (l := [(0, .row 0 v112.length 0 v112.length), (1, .d (.int .i64 a_)), (2, .d (.int .i64 b_)), (3, .func 265 [] []), (8, .d (.int .i64 (w64 (v66 + (1 : Int)))))]) (objs := [.row 3 (v112.map eSOutage)]) rfl (by simp) rfl (by repeat' first | exact trivial | refine ⟨?_, ?_⟩) ⟨rfl, trivial, rfl, trivial, rfl, trivial, rfl, (by repeat' first | exact trivial | refine ⟨?_, ?_⟩), rfl, trivial, trivial⟩)⟩
    · refine aw_seq ?_
      refine aw_block ?_
      refine aw_seq ?_
      refine aw_region ?_
      refine awl_val hτ rfl rfl rfl ?_
      refine awl_val hτ rfl rfl rfl ?_
      refine awl_nil ?_
      refine aw_block ?_
      refine aw_loop (ι := Nat × List SOutage × Int) (fun (m134, v122, v123) => St.of [(0, .row 0 v122.length 0 v122.length), (1, .d (.int .i64 a_)), (2, .d (.int .i64 b_)), (3, .func 265 [] []), (8, .d (.int .i64 v66)), (9, .d (.int .i64 v123))] [.row 3 (v122.map eSOutage)] f354.ntmps 1) (fun (m134, v122, v123) => m_slices_insertionSortCmpFunc_l3 n a_ (m_slices_insertionSortCmpFunc_l1 n a_ b_ m89) v66 m134 v122 v123 = some r) (fun x => x.1) (n, v65, v66) h (weak_ofP [0] (l := [(0, .row 0 v65.length 0 v65.length), (1, .d (.int .i64 a_)), (2, .d (.int .i64 b_)), (3, .func 265 [] []), (8, .d (.int .i64 v66)), (9, .d (.int .i64 v66))]) (objs := [.row 3 (v65.map eSOutage)]) rfl (by simp) rfl (by repeat' first | exact trivial | refine ⟨?_, ?_⟩) ⟨rfl, trivial, rfl, trivial, rfl, trivial, rfl, (by repeat' first | exact trivial | refine ⟨?_, ?_⟩), rfl, trivial, rfl, trivial, trivial⟩) ?_
      rintro ⟨m134, v122, v123⟩ h
      replace h : m_slices_insertionSortCmpFunc_l3 n a_ (m_slices_insertionSortCmpFunc_l1 n a_ b_ m89) v66 m134 v122 v123 = some r := h
      rcases m134 with _ | m134
      · rw [m_slices_insertionSortCmpFunc_l3] at h; cases h
      rw [m_slices_insertionSortCmpFunc_l3] at h
      refine aw_hk1 (ι := Unit) (fun _ => St.of [(0, .row 0 v122.length 0 v122.length), (1, .d (.int .i64 a_)), (2, .d (.int .i64 b_)), (3, .func 265 [] []), (8, .d (.int .i64 v66)), (9, .d (.int .i64 v123))] [.row 3 (v122.map eSOutage)] f354.ntmps 1) (fun _ => m_slices_insertionSortCmpFunc_j4 n (m_slices_insertionSortCmpFunc_l3 n a_ (m_slices_insertionSortCmpFunc_l1 n a_ b_ m89) v66 m134) v122 v123 = some r) ?_ (fun hk144 => ?_)
      · rintro ⟨⟩ h
        replace h : m_slices_insertionSortCmpFunc_j4 n (m_slices_insertionSortCmpFunc_l3 n a_ (m_slices_insertionSortCmpFunc_l1 n a_ b_ m89) v66 m134) v122 v123 = some r := h
        unfold m_slices_insertionSortCmpFunc_j4 at h
        refine aw_seq ?_
        refine aw_block ?_
        refine any_start ?_
        refine any_val hτ [] 0 rfl rfl rfl rfl rfl ?_
        refine any_val hτ [] 1 rfl rfl rfl rfl rfl ?_
        refine any_val hτ [] 2 rfl rfl rfl rfl rfl ?_
        refine any_val hτ [] 3 rfl rfl rfl rfl rfl ?_
        refine any_val hτ [] 4 rfl rfl rfl rfl rfl ?_
        refine any_val hτ [] 5 rfl rfl rfl rfl rfl ?_
        refine any_val hτ [] 6 rfl rfl rfl rfl rfl ?_
        refine any_val hτ [] 7 rfl rfl rfl rfl rfl ?_
        refine bnd_elim h fun x141 hx141 h => ?_
        refine any_need hτ [0] 8 rfl rfl rfl rfl rfl (row_need hx141) ?_
        refine any_elem hτ [0] 9 rfl rfl rfl rfl rfl (len_map _) (row_get hx141) rfl ?_
        refine any_val hτ [] 10 rfl rfl rfl rfl rfl ?_
        refine any_val hτ [] 11 rfl rfl rfl rfl rfl ?_
        refine bnd_elim h fun x142 hx142 h => ?_
        refine any_need hτ [0] 12 rfl rfl rfl rfl rfl (row_need hx142) ?_
        refine any_elem hτ [0] 13 rfl rfl rfl rfl rfl (len_map _) (row_get hx142) rfl ?_
        refine any_need hτ [0] 14 rfl rfl rfl rfl rfl (row_need hx142) ?_
        refine any_elemHP hτ [] 15 rfl rfl rfl rfl (len_map _) (row_get hx142) (set_val (f := eSOutage) (l := v122) (i := v123) (y := x141) rfl) trivial ?_
        refine bnd_elim h fun x143 hx143 h => ?_
        refine any_need hτ [0] 16 rfl rfl rfl rfl rfl (row_needL hx143 (by simp)) ?_
        refine any_elemHP hτ [] 17 rfl rfl rfl rfl (by simp) (row_get hx143) (set_val (f := eSOutage) (l := (v122.set v123.toNat x141)) (i := (w64 (v123 - (1 : Int)))) (y := x142) rfl) trivial ?_
        refine any_done mixed (by kernel_rfl) ?_
        refine aw_weak (weak_ofP [0] (l := [(0, .row 0 (((v122.set v123.toNat x141).set (w64 (v123 - (1 : Int))).toNat x142).length) 0 (((v122.set v123.toNat x141).set (w64 (v123 - (1 : Int))).toNat x142).length)), (1, .d (.int .i64 a_)), (2, .d (.int .i64 b_)), (3, .func 265 [] []), (8, .d (.int .i64 v66)), (9, .d (.int .i64 v123))]) (objs := [.row 3 (((v122.set v123.toNat x141).set (w64 (v123 - (1 : Int))).toNat x142).map eSOutage)]) rfl (by simp) rfl (by repeat' first | exact trivial | refine ⟨?_, ?_⟩) ⟨(exV_rowL rfl (by simp)), trivial, rfl, trivial, rfl, trivial, rfl, (by repeat' first | exact trivial | refine ⟨?_, ?_⟩), rfl, trivial, rfl, trivial, trivial⟩) ?_
        refine aw_region ?_
        refine awl_val hτ rfl rfl rfl ?_
        refine awl_val hτ rfl rfl rfl ?_
        refine awl_val hτ rfl rfl rfl ?_
        refine awl_nil ?_
        exact ⟨(m134, ((v122.set v123.toNat x141).set (w64 (v123 - (1 : Int))).toNat x142), (w64 (v123 - (1 : Int)))), h, Nat.lt_succ_self m134, (weak_ofP [0] (l := [(0, .row 0 (((v122.set v123.toNat x141).set (w64 (v123 - (1 : Int))).toNat x142).length) 0 (((v122.set v123.toNat x141).set (w64 (v123 - (1 : Int))).toNat x142).length)), (1, .d (.int .i64 a_)), (2, .d (.int .i64 b_)), (3, .func 265 [] []), (8, .d (.int .i64 v66)), (9, .d (.int .i64 (w64 (v123 - (1 : Int)))))]) (objs := [.row 3 (((v122.set v123.toNat x141).set (w64 (v123 - (1 : Int))).toNat x142).map eSOutage)]) rfl (by simp) rfl (by repeat' first | exact trivial | refine ⟨?_, ?_⟩) ⟨rfl, trivial, rfl, trivial, rfl, trivial, rfl, (by repeat' first | exact trivial | refine ⟨?_, ?_⟩), rfl, trivial, rfl, trivial, trivial⟩)⟩
      · refine aw_seq ?_
        refine aw_hk1 (ι := Bool) (fun v150 => St.of [(0, .row 0 v122.length 0 v122.length), (1, .d (.int .i64 a_)), (2, .d (.int .i64 b_)), (3, .func 265 [] []), (8, .d (.int .i64 v66)), (9, .d (.int .i64 v123)), (34, .d (.bool v150))] [.row 3 (v122.map eSOutage)] f354.ntmps 1) (fun v150 => m_slices_insertionSortCmpFunc_j5 n (m_slices_insertionSortCmpFunc_l1 n a_ b_ m89) v66 (m_slices_insertionSortCmpFunc_l3 n a_ (m_slices_insertionSortCmpFunc_l1 n a_ b_ m89) v66 m134) v122 v123 v150 = some r) ?_ (fun hk152 => ?_)
        · rintro v150 h
          replace h : m_slices_insertionSortCmpFunc_j5 n (m_slices_insertionSortCmpFunc_l1 n a_ b_ m89) v66 (m_slices_insertionSortCmpFunc_l3 n a_ (m_slices_insertionSortCmpFunc_l1 n a_ b_ m89) v66 m134) v122 v123 v150 = some r := h
          unfold m_slices_insertionSortCmpFunc_j5 at h
          refine aw_cond rfl (fun hc151 => ?_) (fun hc151 => ?_)
          · have h := if_bt h hc151
            refine aw_skip ?_
            refine aw_weak (weak_ofP [0] (l := [(0, .row 0 v122.length 0 v122.length), (1, .d (.int .i64 a_)), (2, .d (.int .i64 b_)), (3, .func 265 [] []), (8, .d (.int .i64 v66)), (9, .d (.int .i64 v123))]) (objs := [.row 3 (v122.map eSOutage)]) rfl (by simp) rfl (by repeat' first | exact trivial | refine ⟨?_, ?_⟩) ⟨rfl, trivial, rfl, trivial, rfl, trivial, rfl, (by repeat' first | exact trivial | refine ⟨?_, ?_⟩), rfl, trivial, rfl, trivial, trivial⟩) ?_
            exact hk144 () h
          · have h := if_bf h hc151
            refine aw_exit ?_
            refine aw_weak (weak_ofP [0] (l := [(0, .row 0 v122.length 0 v122.length), (1, .d (.int .i64 a_)), (2, .d (.int .i64 b_)), (3, .func 265 [] []), (8, .d (.int .i64 v66))]) (objs := [.row 3 (v122.map eSOutage)]) rfl (by simp) rfl (by repeat' first | exact trivial | refine ⟨?_, ?_⟩) ⟨rfl, trivial, rfl, trivial, rfl, trivial, rfl, (by repeat' first | exact trivial | refine ⟨?_, ?_⟩), rfl, trivial, trivial⟩) ?_
            exact hk113 v122 h
        · refine aw_seq ?_
          refine any_start ?_
          refine any_val hτ [] 0 rfl rfl rfl rfl rfl ?_
          refine any_val hτ [] 1 rfl rfl rfl rfl rfl ?_
          refine any_val hτ [] 2 rfl rfl rfl rfl rfl ?_
          refine any_val hτ [] 3 rfl rfl rfl rfl rfl ?_
          refine any_split 21 rfl (fun hb153 => ?_) (fun hb153 => ?_)
          · have h := if_t h hb153
            refine any_val hτ [] 4 rfl rfl rfl rfl rfl ?_
            refine any_val hτ [] 5 rfl rfl rfl rfl rfl ?_
            refine any_val hτ [] 6 rfl rfl rfl rfl rfl ?_
            refine bnd_elim h fun x154 hx154 h => ?_
            refine any_need hτ [0] 7 rfl rfl rfl rfl rfl (row_need hx154) ?_
            refine any_elem hτ [0] 8 rfl rfl rfl rfl rfl (len_map _) (row_get hx154) rfl ?_
            refine any_val hτ [] 9 rfl rfl rfl rfl rfl ?_
            refine any_val hτ [] 10 rfl rfl rfl rfl rfl ?_
            refine any_val hτ [] 11 rfl rfl rfl rfl rfl ?_
            refine bnd_elim h fun x155 hx155 h => ?_
            refine any_need hτ [0] 12 rfl rfl rfl rfl rfl (row_need hx155) ?_
            refine any_elem hτ [0] 13 rfl rfl rfl rfl rfl (len_map _) (row_get hx155) rfl ?_
            refine bnd_elim h fun x156 hx156 h => ?_
            refine any_callP hτ false [] [0] 14 rfl rfl rfl rfl (enterOk func265 rfl rfl) rfl rfl (by simp) ⟨(by repeat' first | exact trivial | refine ⟨?_, ?_⟩), (by repeat' first | exact trivial | refine ⟨?_, ?_⟩), trivial⟩ (by repeat' first | exact trivial | refine ⟨?_, ?_⟩) (impl_Feeder_dark_1_ok n x154 x155 hx156) ⟨rfl, trivial⟩ ?_
            refine any_val hτ [] 15 rfl rfl rfl rfl rfl ?_
            refine any_val hτ [] 16 rfl rfl rfl rfl rfl ?_
            refine any_done mixed (by kernel_rfl) ?_
            refine aw_weak (weak_ofP [0] (l := [(0, .row 0 v122.length 0 v122.length), (1, .d (.int .i64 a_)), (2, .d (.int .i64 b_)), (3, .func 265 [] []), (8, .d (.int .i64 v66)), (9, .d (.int .i64 v123)), (34, .d (.bool (decide (x156 < (0 : Int)))))]) (objs := [.row 3 (v122.map eSOutage)]) rfl (by simp) rfl (by repeat' first | exact trivial | refine ⟨?_, ?_⟩) ⟨rfl, trivial, rfl, trivial, rfl, trivial, rfl, (by repeat' first | exact trivial | refine ⟨?_, ?_⟩), rfl, trivial, rfl, trivial, rfl, trivial, trivial⟩) ?_
            exact hk152 (decide (x156 < (0 : Int))) h
          · have h := if_f h hb153
            refine any_skip 4 rfl rfl rfl ?_
            refine any_skip 5 rfl rfl rfl ?_
            refine any_skip 6 rfl rfl rfl ?_
            refine any_skip 7 rfl rfl rfl ?_
            refine any_skip 8 rfl rfl rfl ?_
            refine any_skip 9 rfl rfl rfl ?_
            refine any_skip 10 rfl rfl rfl ?_
            refine any_skip 11 rfl rfl rfl ?_
            refine any_skip 12 rfl rfl rfl ?_
            refine any_skip 13 rfl rfl rfl ?_
            refine any_skip 14 rfl rfl rfl ?_
            refine any_skip 15 rfl rfl rfl ?_
            refine any_val hτ [] 16 rfl rfl rfl rfl rfl ?_
            refine any_done mixed (by kernel_rfl) ?_
            refine aw_weak (weak_ofP [0] (l := [(0, .row 0 v122.length 0 v122.length), (1, .d (.int .i64 a_)), (2, .d (.int .i64 b_)), (3, .func 265 [] []), (8, .d (.int .i64 v66)), (9, .d (.int .i64 v123)), (34, .d (.bool false))]) (objs := [.row 3 (v122.map eSOutage)]) rfl (by simp) rfl (by repeat' first | exact trivial | refine ⟨?_, ?_⟩) ⟨rfl, trivial, rfl, trivial, rfl, trivial, rfl, (by repeat' first | exact trivial | refine ⟨?_, ?_⟩), rfl, trivial, rfl, trivial, rfl, trivial, trivial⟩) ?_
            exact hk152 false h
  · have h := if_f h hc91
    refine aw_exit ?_
    have hr := Option.some.inj h
    subst hr
    exact ret_objs (.inl rfl) [] (objs' := [.row 3 (v65.map eSOutage)]) (new := []) rfl (by simp) (by simp) rfl (by repeat' first | exact trivial | refine ⟨?_, ?_⟩) rfl rfl (by repeat' first | exact trivial | refine ⟨?_, ?_⟩) (fun _ => ⟨by simp [V.flat, V.flatA, V.flatC, D.flat], (flat_cons (flat_row eSOutage_flat _) flat_nil)⟩) ⟨rfl, rfl, rfl⟩
theorem slices_insertionSortCmpFunc_ok (n : Nat) (data_ : List SOutage) (a_ : Int) (b_ : Int) {r : List SOutage} (h : m_slices_insertionSortCmpFunc n data_ a_ b_ = some r) : ACall prog false 354 [.row 0 data_.length 0 data_.length, .d (.int .i64 a_), .d (.int .i64 b_), .func 265 [] []] [.row 3 (data_.map eSOutage)] (fun v o new => v = .tup [] ∧ o = [.row 3 (r.map eSOutage)] ∧ new = []) := slices_insertionSortCmpFunc_ok_fr0 false n data_ a_ b_ h
theorem slices_insertionSortCmpFunc_ok_fr (n : Nat) (data_ : List SOutage) (a_ : Int) (b_ : Int) {r : List SOutage} (h : m_slices_insertionSortCmpFunc n data_ a_ b_ = some r) : ACall prog true 354 [.row 0 data_.length 0 data_.length, .d (.int .i64 a_), .d (.int .i64 b_), .func 265 [] []] [.row 3 (data_.map eSOutage)] (fun v o new => v = .tup [] ∧ o = [.row 3 (r.map eSOutage)] ∧ new = []) := slices_insertionSortCmpFunc_ok_fr0 true n data_ a_ b_ h

def m_slices_pdqsortCmpFunc_l1 (n : Nat) (data_ : List SOutage) (a_ : Int) (b_ : Int) (limit_ : Int) : Nat → Option (List SOutage)
  | 0 => none
  | m5 + 1 =>
    if (w64 (b_ - a_)) ≤ (12 : Int) then
      (m_slices_insertionSortCmpFunc n data_ a_ b_).bind fun x10 =>
      grd (x10.length = data_.length) <|
      some x10
    else
      if limit_ = (0 : Int) then
        none
      else
        none
def m_slices_pdqsortCmpFunc (n : Nat) (data_ : List SOutage) (a_ : Int) (b_ : Int) (limit_ : Int) : Option (List SOutage) :=
  m_slices_pdqsortCmpFunc_l1 n data_ a_ b_ limit_ n
theorem slices_pdqsortCmpFunc_ok_fr0 (fr : Bool) (n : Nat) (data_ : List SOutage) (a_ : Int) (b_ : Int) (limit_ : Int) {r : List SOutage} (h : m_slices_pdqsortCmpFunc n data_ a_ b_ limit_ = some r) : ACall prog fr 324 [.row 0 data_.length 0 data_.length, .d (.int .i64 a_), .d (.int .i64 b_), .d (.int .i64 limit_), .func 265 [] []] [.row 3 (data_.map eSOutage)] (fun v o new => v = .tup [] ∧ o = [.row 3 (r.map eSOutage)] ∧ new = []) := by
  refine acall_of_aw hτ func324 rfl (by simp) (by simp) ?_
  unfold m_slices_pdqsortCmpFunc at h
  refine aw_seq ?_
  refine aw_region ?_
  refine awl_val hτ rfl rfl rfl ?_
  refine awl_nil ?_
  refine aw_seq ?_
  refine aw_region ?_
  refine awl_val hτ rfl rfl rfl ?_
  refine awl_nil ?_
  refine aw_block ?_
  refine aw_loop (ι := Nat) (fun m5 => St.of [(0, .row 0 data_.length 0 data_.length), (1, .d (.int .i64 a_)), (2, .d (.int .i64 b_)), (3, .d (.int .i64 limit_)), (4, .func 265 [] []), (10, .d (.bool true)), (11, .d (.bool true))] [.row 3 (data_.map eSOutage)] f324.ntmps 1) (fun m5 => m_slices_pdqsortCmpFunc_l1 n data_ a_ b_ limit_ m5 = some r) (fun x => x) n h (weak_ofP [0] (l := [(0, .row 0 data_.length 0 data_.length), (1, .d (.int .i64 a_)), (2, .d (.int .i64 b_)), (3, .d (.int .i64 limit_)), (4, .func 265 [] []), (10, .d (.bool true)), (11, .d (.bool true))]) (objs := [.row 3 (data_.map eSOutage)]) rfl (by simp) rfl (by repeat' first | exact trivial | refine ⟨?_, ?_⟩) ⟨rfl, trivial, rfl, trivial, rfl, trivial, rfl, trivial, rfl, (by repeat' first | exact trivial | refine ⟨?_, ?_⟩), rfl, trivial, rfl, trivial, trivial⟩) ?_
  rintro m5 h
  replace h : m_slices_pdqsortCmpFunc_l1 n data_ a_ b_ limit_ m5 = some r := h
  rcases m5 with _ | m5
  · rw [m_slices_pdqsortCmpFunc_l1] at h; cases h
  rw [m_slices_pdqsortCmpFunc_l1] at h
  refine aw_block ?_
  refine aw_seq ?_
  refine aw_region ?_
  refine awl_val hτ rfl rfl rfl ?_
  refine awl_val hτ rfl rfl rfl ?_
  refine awl_val hτ rfl rfl rfl ?_
  refine awl_val hτ rfl rfl rfl ?_
  refine awl_nil ?_
  refine aw_seq ?_
  refine aw_seq ?_
  refine aw_region ?_
  refine awl_val hτ rfl rfl rfl ?_
  refine awl_val hτ rfl rfl rfl ?_
  refine awl_nil ?_
  refine aw_weak (weak_ofP [0] (l := [(0, .row 0 data_.length 0 data_.length), (1, .d (.int .i64 a_)), (2, .d (.int .i64 b_)), (3, .d (.int .i64 limit_)), (4, .func 265 [] []), (10, .d (.bool true)), (11, .d (.bool true)), (12, .d (.int .i64 (w64 (b_ - a_)))), (25, .d (.bool (decide ((w64 (b_ - a_)) ≤ (12 : Int)))))]) (objs := [.row 3 (data_.map eSOutage)]) rfl (by simp) rfl (by repeat' first | exact trivial | refine ⟨?_, ?_⟩) ⟨rfl, trivial, rfl, trivial, rfl, trivial, rfl, trivial, rfl, (by repeat' first | exact trivial | refine ⟨?_, ?_⟩), rfl, trivial, rfl, trivial, rfl, trivial, rfl, trivial, trivial⟩) ?_
  refine aw_cond rfl (fun hc9 => ?_) (fun hc9 => ?_)
  · have h := if_t h hc9
    refine aw_seq ?_
    refine aw_region ?_
    refine awl_val hτ rfl rfl rfl ?_
    refine awl_val hτ rfl rfl rfl ?_
    refine awl_val hτ rfl rfl rfl ?_
    refine awl_val hτ rfl rfl rfl ?_
    refine bnd_elim h fun x10 hx10 h => ?_
    refine awl_callP hτ false [0] rfl rfl rfl (enterOk func354 rfl rfl) rfl rfl (by simp) ⟨trivial, trivial, trivial, (by repeat' first | exact trivial | refine ⟨?_, ?_⟩), trivial⟩ (by repeat' first | exact trivial | refine ⟨?_, ?_⟩) (slices_insertionSortCmpFunc_ok n data_ a_ b_ hx10) ?_
    rintro r0 o0 n0 ⟨rfl, rfl, rfl⟩ -
    refine grd_elim h fun hg11 h => ?_
    refine awl_nil ?_
    refine aw_weak (weak_ofP [0] (l := []) (objs := [.row 3 (x10.map eSOutage)]) rfl (by simp) rfl (by repeat' first | exact trivial | refine ⟨?_, ?_⟩) trivial) ?_
    refine aw_ret ?_
    have hr := Option.some.inj h
    subst hr
    exact ret_objs (.inr rfl) [] (objs' := [.row 3 (x10.map eSOutage)]) (new := []) rfl (by simp) (by simp) rfl (by repeat' first | exact trivial | refine ⟨?_, ?_⟩) rfl rfl (by repeat' first | exact trivial | refine ⟨?_, ?_⟩) (fun _ => ⟨by simp [V.flat, V.flatA, V.flatC, D.flat], (flat_cons (flat_row eSOutage_flat _) flat_nil)⟩) ⟨rfl, rfl, rfl⟩
  · have h := if_f h hc9
    refine aw_skip ?_
    refine aw_seq ?_
    refine aw_seq ?_
    refine aw_region ?_
    refine awl_val hτ rfl rfl rfl ?_
    refine awl_val hτ (v := .d (.bool (decide (limit_ = (0 : Int))))) rfl rfl (or_ieq _ _) ?_
    refine awl_nil ?_
    refine aw_cond rfl (fun hc12 => ?_) (fun hc12 => ?_)
    · have h := if_t h hc12
      refine aw_seq ?_
      refine aw_region ?_
      refine awl_val hτ rfl rfl rfl ?_
      refine awl_val hτ rfl rfl rfl ?_
      refine awl_val hτ rfl rfl rfl ?_
      refine awl_val hτ rfl rfl rfl ?_
      exact nomatch h
    · have h := if_f h hc12
      refine aw_skip ?_
      refine aw_seq ?_
      refine aw_seq ?_
      refine aw_region ?_
      refine awl_val hτ rfl rfl rfl ?_
      refine awl_val hτ rfl rfl rfl ?_
      refine awl_nil ?_
      refine aw_cond (b := false) rfl (fun hd => nomatch hd) (fun _ => ?_)
      refine aw_skip ?_
      refine aw_seq ?_
      refine aw_region ?_
      refine awl_val hτ rfl rfl rfl ?_
      refine awl_val hτ rfl rfl rfl ?_
      refine awl_val hτ rfl rfl rfl ?_
      refine awl_val hτ rfl rfl rfl ?_
      exact nomatch h
theorem slices_pdqsortCmpFunc_ok (n : Nat) (data_ : List SOutage) (a_ : Int) (b_ : Int) (limit_ : Int) {r : List SOutage} (h : m_slices_pdqsortCmpFunc n data_ a_ b_ limit_ = some r) : ACall prog false 324 [.row 0 data_.length 0 data_.length, .d (.int .i64 a_), .d (.int .i64 b_), .d (.int .i64 limit_), .func 265 [] []] [.row 3 (data_.map eSOutage)] (fun v o new => v = .tup [] ∧ o = [.row 3 (r.map eSOutage)] ∧ new = []) := slices_pdqsortCmpFunc_ok_fr0 false n data_ a_ b_ limit_ h
theorem slices_pdqsortCmpFunc_ok_fr (n : Nat) (data_ : List SOutage) (a_ : Int) (b_ : Int) (limit_ : Int) {r : List SOutage} (h : m_slices_pdqsortCmpFunc n data_ a_ b_ limit_ = some r) : ACall prog true 324 [.row 0 data_.length 0 data_.length, .d (.int .i64 a_), .d (.int .i64 b_), .d (.int .i64 limit_), .func 265 [] []] [.row 3 (data_.map eSOutage)] (fun v o new => v = .tup [] ∧ o = [.row 3 (r.map eSOutage)] ∧ new = []) := slices_pdqsortCmpFunc_ok_fr0 true n data_ a_ b_ limit_ h

def m_slices_SortFunc (n : Nat) (x_ : List SOutage) : Option (List SOutage) :=
  (m_bits_Len n (IntKind.wrap .u64 ((x_.length : Int)))).bind fun x4 =>
  (m_slices_pdqsortCmpFunc n x_ (0 : Int) (x_.length : Int) x4).bind fun x5 =>
  grd (x5.length = x_.length) <|
  some x5
theorem slices_SortFunc_ok_fr0 (fr : Bool) (n : Nat) (x_ : List SOutage) {r : List SOutage} (h : m_slices_SortFunc n x_ = some r) : ACall prog fr 264 [.row 0 x_.length 0 x_.length, .func 265 [] []] [.row 3 (x_.map eSOutage)] (fun v o new => v = .tup [] ∧ o = [.row 3 (r.map eSOutage)] ∧ new = []) := by
  refine acall_of_aw hτ func264 rfl (by simp) (by simp) ?_
  unfold m_slices_SortFunc at h
  refine aw_seq ?_
  refine aw_region ?_
  refine awl_val hτ rfl rfl rfl ?_
  refine awl_need hτ rfl rfl rfl (len_map _) ?_
  refine awl_val hτ rfl rfl rfl ?_
  refine awl_nil ?_
  refine aw_region ?_
  refine awl_val hτ rfl rfl rfl ?_
  refine awl_val hτ rfl rfl rfl ?_
  refine awl_val hτ rfl rfl rfl ?_
  refine awl_val hτ rfl rfl rfl ?_
  refine bnd_elim h fun x4 hx4 h => ?_
  refine awl_callP hτ false [] rfl rfl rfl (enterOk func277 rfl rfl) rfl rfl (by simp) ⟨trivial, trivial⟩ (by repeat' first | exact trivial | refine ⟨?_, ?_⟩) (bits_Len_ok n (IntKind.wrap .u64 ((x_.length : Int))) hx4) ?_
  rintro r0 o0 n0 ⟨rfl, rfl, rfl⟩ -
  refine awl_val hτ rfl rfl rfl ?_
  refine bnd_elim h fun x5 hx5 h => ?_
  refine awl_callP hτ false [0] rfl rfl rfl (enterOk func324 rfl rfl) rfl rfl (by simp) ⟨trivial, trivial, trivial, trivial, (by repeat' first | exact trivial | refine ⟨?_, ?_⟩), trivial⟩ (by repeat' first | exact trivial | refine ⟨?_, ?_⟩) (slices_pdqsortCmpFunc_ok n x_ (0 : Int) (x_.length : Int) x4 hx5) ?_
  rintro r0 o0 n0 ⟨rfl, rfl, rfl⟩ -
  refine grd_elim h fun hg6 h => ?_
  refine awl_nil ?_
  have hr := Option.some.inj h
  subst hr
  exact ret_objs (.inl rfl) [] (objs' := [.row 3 (x5.map eSOutage)]) (new := []) rfl (by simp) (by simp) rfl (by repeat' first | exact trivial | refine ⟨?_, ?_⟩) rfl rfl (by repeat' first | exact trivial | refine ⟨?_, ?_⟩) (fun _ => ⟨by simp [V.flat, V.flatA, V.flatC, D.flat], (flat_cons (flat_row eSOutage_flat _) flat_nil)⟩) ⟨rfl, rfl, rfl⟩
theorem slices_SortFunc_ok (n : Nat) (x_ : List SOutage) {r : List SOutage} (h : m_slices_SortFunc n x_ = some r) : ACall prog false 264 [.row 0 x_.length 0 x_.length, .func 265 [] []] [.row 3 (x_.map eSOutage)] (fun v o new => v = .tup [] ∧ o = [.row 3 (r.map eSOutage)] ∧ new = []) := slices_SortFunc_ok_fr0 false n x_ h
theorem slices_SortFunc_ok_fr (n : Nat) (x_ : List SOutage) {r : List SOutage} (h : m_slices_SortFunc n x_ = some r) : ACall prog true 264 [.row 0 x_.length 0 x_.length, .func 265 [] []] [.row 3 (x_.map eSOutage)] (fun v o new => v = .tup [] ∧ o = [.row 3 (r.map eSOutage)] ∧ new = []) := slices_SortFunc_ok_fr0 true n x_ h

def m_impl_Feeder_dark_j3 (n : Nat) (k65 : Int → Int → Int → Int → Option (Int × Int)) (v55 : Int) (v71 : Int) (v72 : Int) (v73 : Int) : Option (Int × Int) :=
  k65 v71 v72 v73 (w64 (v55 + (1 : Int)))
def m_impl_Feeder_dark_j4 (n : Nat) (k65 : Int → Int → Int → Int → Option (Int × Int)) (v52 : Int) (v54 : Int) (v55 : Int) (x75 : SOutage) (v77 : Int) : Option (Int × Int) :=
  if x75.Until > v54 then
    m_impl_Feeder_dark_j3 n k65 v55 (w64 (v52 + (w64 (x75.Until - (if v54 > x75.From then v54 else x75.From))))) v77 x75.Until
  else
    m_impl_Feeder_dark_j3 n k65 v55 v52 v77 v54
def m_impl_Feeder_dark_l2 (n : Nat) (v45 : List SOutage) (x46 : List SOutage) : Nat → Int → Int → Int → Int → Option (Int × Int)
  | 0, _, _, _, _ => none
  | m64 + 1, v52, v53, v54, v55 =>
    if v55 < (v45.length : Int) then
      (getI x46 v55).bind fun x75 =>
      if x75.From > v54 then
        m_impl_Feeder_dark_j4 n (m_impl_Feeder_dark_l2 n v45 x46 m64) v52 v54 v55 x75 (w64 (v53 + (1 : Int)))
      else
        m_impl_Feeder_dark_j4 n (m_impl_Feeder_dark_l2 n v45 x46 m64) v52 v54 v55 x75 v53
    else
      some (v52, v53)
def m_impl_Feeder_dark_j1 (n : Nat) (v45 : List SOutage) : Option (Int × Int) :=
  (m_slices_SortFunc n v45).bind fun x46 =>
  grd (x46.length = v45.length) <|
  m_impl_Feeder_dark_l2 n v45 x46 n (0 : Int) (0 : Int) (-1 : Int) (0 : Int)
def m_impl_Feeder_dark_j6 (n : Nat) (k95 : List SOutage → Int → Option (Int × Int)) (v87 : Int) (v101 : List SOutage) : Option (Int × Int) :=
  k95 v101 (w64 (v87 + (1 : Int)))
def m_impl_Feeder_dark_l5 (n : Nat) (list_ : List SOutage) (x32 : List Int) : Nat → List SOutage → Int → Option (Int × Int)
  | 0, _, _ => none
  | m94 + 1, v86, v87 =>
    if v87 < (list_.length : Int) then
      (getI list_ v87).bind fun x103 =>
      (m_slices_Contains n x32 x103.Bus).bind fun x104 =>
      if x104 = true then
        grd (room (v86.length + 1) 24) <|
        m_impl_Feeder_dark_j6 n (m_impl_Feeder_dark_l5 n list_ x32 m94) v87 (v86 ++ [x103])
      else
        m_impl_Feeder_dark_j6 n (m_impl_Feeder_dark_l5 n list_ x32 m94) v87 v86
    else
      m_impl_Feeder_dark_j1 n v86
def m_impl_Feeder_dark (n : Nat) (f_ : SFeeder) (list_ : List SOutage) (bus_ : Int) : Option (Int × Int) :=
  (m_impl_Feeder_path n f_ bus_).bind fun x32 =>
  m_impl_Feeder_dark_l5 n list_ x32 n ([] : List SOutage) (0 : Int)
theorem impl_Feeder_dark_ok (n : Nat) (f_ : SFeeder) (list_ : List SOutage) (bus_ : Int) {r : Int × Int} (h : m_impl_Feeder_dark n f_ list_ bus_ = some r) : ACall prog false 177 [.ptr 0 0, .d (.sl false (list_.map eSOutage)), .d (.int .i64 bus_)] [.box [.d (.cx .f32 f_.Source.A.re f_.Source.A.im), .d (.cx .f32 f_.Source.B.re f_.Source.B.im), .d (.cx .f32 f_.Source.C.re f_.Source.C.im), .d (.sl false (f_.Buses.map eSBus))]] (fun v o new => v = .tup [.d (.int .i64 r.1), .d (.int .i64 r.2)] ∧ o = [.box [.d (.cx .f32 f_.Source.A.re f_.Source.A.im), .d (.cx .f32 f_.Source.B.re f_.Source.B.im), .d (.cx .f32 f_.Source.C.re f_.Source.C.im), .d (.sl false (f_.Buses.map eSBus))]] ∧ new = []) := by
  refine acall_of_aw hτ func177 rfl (by simp) (by simp) ?_
  unfold m_impl_Feeder_dark at h
  refine aw_seq ?_
  refine aw_region ?_
  refine awl_val hτ rfl rfl rfl ?_
  refine awl_val hτ rfl rfl rfl ?_
  refine awl_nil ?_
  refine aw_seq ?_
  refine aw_region ?_
  refine awl_val hτ rfl rfl rfl ?_
  refine awl_val hτ rfl rfl rfl ?_
  refine bnd_elim h fun x32 hx32 h => ?_
  refine awl_callP hτ false [0] rfl rfl rfl (enterOk func129 rfl rfl) rfl rfl (by simp) ⟨trivial, trivial, trivial⟩ (by repeat' first | exact trivial | refine ⟨?_, ?_⟩) (impl_Feeder_path_ok n f_ bus_ hx32) ?_
  rintro r0 o0 n0 ⟨rfl, rfl, rfl⟩ -
  refine awl_valH hτ rfl rfl rfl ?_
  refine awl_val hτ rfl rfl rfl ?_
  refine awl_val hτ rfl rfl rfl ?_
  refine awl_nil ?_
  refine aw_hk1 (ι := List SOutage) (fun v45 => St.of [(9, .row 1 v45.length 0 v45.length)] [.box [.d (.cx .f32 f_.Source.A.re f_.Source.A.im), .d (.cx .f32 f_.Source.B.re f_.Source.B.im), .d (.cx .f32 f_.Source.C.re f_.Source.C.im), .d (.sl false (f_.Buses.map eSBus))], .row 3 (v45.map eSOutage)] f177.ntmps 1) (fun v45 => m_impl_Feeder_dark_j1 n v45 = some r) ?_ (fun hk81 => ?_)
  · rintro v45 h
    replace h : m_impl_Feeder_dark_j1 n v45 = some r := h
    unfold m_impl_Feeder_dark_j1 at h
    refine aw_seq ?_
    refine aw_region ?_
    refine awl_val hτ rfl rfl rfl ?_
    refine bnd_elim h fun x46 hx46 h => ?_
    refine awl_callP hτ false [1] rfl rfl rfl (enterOk func264 rfl rfl) rfl rfl (by simp) ⟨trivial, (by repeat' first | exact trivial | refine ⟨?_, ?_⟩), trivial⟩ (by repeat' first | exact trivial | refine ⟨?_, ?_⟩) (slices_SortFunc_ok n v45 hx46) ?_
    rintro r0 o0 n0 ⟨rfl, rfl, rfl⟩ -
    refine grd_elim h fun hg47 h => ?_
    refine awl_nil ?_
    refine aw_seq ?_
    refine aw_region ?_
    refine awl_val hτ rfl rfl rfl ?_
    refine awl_val hτ rfl rfl rfl ?_
    refine awl_val hτ rfl rfl rfl ?_
    refine awl_nil ?_
    refine aw_seq ?_
    refine aw_seq ?_
    refine aw_region ?_
    refine awl_val hτ rfl rfl rfl ?_
    refine awl_need hτ rfl rfl rfl (by simp [hg47]) ?_
    refine awl_val hτ rfl rfl rfl ?_
    refine awl_nil ?_
    refine aw_block ?_
    refine aw_loop (ι := Nat × Int × Int × Int × Int) (fun (m64, v52, v53, v54, v55) => St.of [(12, .d (.int .i64 v52)), (13, .d (.int .i64 v53)), (14, .d (.int .i64 v54)), (38, .row 1 x46.length 0 x46.length), (39, .d (.int .i64 (v45.length : Int))), (40, .d (.int .i64 v55))] [.box [.d (.cx .f32 f_.Source.A.re f_.Source.A.im), .d (.cx .f32 f_.Source.B.re f_.Source.B.im), .d (.cx .f32 f_.Source.C.re f_.Source.C.im), .d (.sl false (f_.Buses.map eSBus))], .row 3 (x46.map eSOutage)] f177.ntmps 1) (fun (m64, v52, v53, v54, v55) => m_impl_Feeder_dark_l2 n v45 x46 m64 v52 v53 v54 v55 = some r) (fun x => x.1) (n, (0 : Int), (0 : Int), (-1 : Int), (0 : Int)) h (weak_ofP [0, 1] (l := [(12, .d (.int .i64 (0 : Int))), (13, .d (.int .i64 (0 : Int))), (14, .d (.int .i64 (-1 : Int))), (38, .row 1 x46.length 0 x46.length), (39, .d (.int .i64 (v45.length : Int))), (40, .d (.int .i64 (0 : Int)))]) (objs := [.box [.d (.cx .f32 f_.Source.A.re f_.Source.A.im), .d (.cx .f32 f_.Source.B.re f_.Source.B.im), .d (.cx .f32 f_.Source.C.re f_.Source.C.im), .d (.sl false (f_.Buses.map eSBus))], .row 3 (x46.map eSOutage)]) rfl (by simp) rfl (by repeat' first | exact trivial | refine ⟨?_, ?_⟩) ⟨rfl, trivial, rfl, trivial, rfl, trivial, (exV_rowL rfl (by simp [hg47])), trivial, rfl, trivial, rfl, trivial, trivial⟩) ?_
    rintro ⟨m64, v52, v53, v54, v55⟩ h
    replace h : m_impl_Feeder_dark_l2 n v45 x46 m64 v52 v53 v54 v55 = some r := h
    rcases m64 with _ | m64
    · rw [m_impl_Feeder_dark_l2] at h; cases h
    rw [m_impl_Feeder_dark_l2] at h
    refine aw_seq ?_
    refine aw_region ?_
    refine awl_val hτ rfl rfl rfl ?_
    refine awl_nil ?_
    refine aw_seq ?_
    refine aw_cond rfl (fun hc66 => ?_) (fun hc66 => ?_)
    · have h := if_t h hc66
      refine aw_skip ?_
      refine aw_hk1 (ι := Int × Int × Int) (fun (v71, v72, v73) => St.of [(12, .d (.int .i64 v71)), (13, .d (.int .i64 v72)), (14, .d (.int .i64 v73)), (38, .row 1 x46.length 0 x46.length), (39, .d (.int .i64 (v45.length : Int))), (40, .d (.int .i64 v55))] [.box [.d (.cx .f32 f_.Source.A.re f_.Source.A.im), .d (.cx .f32 f_.Source.B.re f_.Source.B.im), .d (.cx .f32 f_.Source.C.re f_.Source.C.im), .d (.sl false (f_.Buses.map eSBus))], .row 3 (x46.map eSOutage)] f177.ntmps 1) (fun (v71, v72, v73) => m_impl_Feeder_dark_j3 n (m_impl_Feeder_dark_l2 n v45 x46 m64) v55 v71 v72 v73 = some r) ?_ (fun hk74 => ?_)
      · rintro ⟨v71, v72, v73⟩ h
        replace h : m_impl_Feeder_dark_j3 n (m_impl_Feeder_dark_l2 n v45 x46 m64) v55 v71 v72 v73 = some r := h
        unfold m_impl_Feeder_dark_j3 at h
        refine aw_region ?_
        refine awl_val hτ rfl rfl rfl ?_
        refine awl_val hτ rfl rfl rfl ?_
        refine awl_nil ?_
        exact ⟨(m64, v71, v72, v73, (w64 (v55 + (1 : Int)))), h, Nat.lt_succ_self m64, (weak_ofP [0, 1] (l := [(12, .d (.int .i64 v71)), (13, .d (.int .i64 v72)), (14, .d (.int .i64 v73)), (38, .row 1 x46.length 0 x46.length), (39, .d (.int .i64 (v45.length : Int))), (40, .d (.int .i64 (w64 (v55 + (1 : Int)))))]) (objs := [.box [.d (.cx .f32 f_.Source.A.re f_.Source.A.im), .d (.cx .f32 f_.Source.B.re f_.Source.B.im), .d (.cx .f32 f_.Source.C.re f_.Source.C.im), .d (.sl false (f_.Buses.map eSBus))], .row 3 (x46.map eSOutage)]) rfl (by simp) rfl (by repeat' first | exact trivial | refine ⟨?_, ?_⟩) ⟨rfl, trivial, rfl, trivial, rfl, trivial, rfl, trivial, rfl, trivial, rfl, trivial, trivial⟩)⟩
      · refine aw_seq ?_
        refine aw_block ?_
        refine aw_seq ?_
        refine aw_region ?_
        refine bnd_elim h fun x75 hx75 h => ?_
        refine awl_need hτ rfl rfl rfl (row_need hx75) ?_
        refine awl_elem hτ rfl rfl rfl (len_map _) (row_get hx75) rfl ?_
        refine awl_valH hτ rfl rfl rfl ?_
        refine awl_valH hτ rfl rfl rfl ?_
        refine awl_nil ?_
        refine aw_hk1 (ι := Int) (fun v77 => St.of [(12, .d (.int .i64 v52)), (13, .d (.int .i64 v77)), (14, .d (.int .i64 v54)), (16, .ptr 1 0), (38, .row 2 x46.length 0 x46.length), (39, .d (.int .i64 (v45.length : Int))), (40, .d (.int .i64 v55))] [.box [.d (.cx .f32 f_.Source.A.re f_.Source.A.im), .d (.cx .f32 f_.Source.B.re f_.Source.B.im), .d (.cx .f32 f_.Source.C.re f_.Source.C.im), .d (.sl false (f_.Buses.map eSBus))], .box [.d (.int .i64 x75.Bus), .d (.int .i64 x75.From), .d (.int .i64 x75.Until)], .row 3 (x46.map eSOutage)] f177.ntmps 1) (fun v77 => m_impl_Feeder_dark_j4 n (m_impl_Feeder_dark_l2 n v45 x46 m64) v52 v54 v55 x75 v77 = some r) ?_ (fun hk79 => ?_)
        · rintro v77 h
          replace h : m_impl_Feeder_dark_j4 n (m_impl_Feeder_dark_l2 n v45 x46 m64) v52 v54 v55 x75 v77 = some r := h
          unfold m_impl_Feeder_dark_j4 at h
          refine aw_seq ?_
          refine aw_region ?_
          refine awl_val hτ rfl rfl rfl ?_
          refine awl_val hτ rfl rfl rfl ?_
          refine awl_val hτ rfl rfl rfl ?_
          refine awl_val hτ rfl rfl rfl ?_
          refine awl_nil ?_
          refine aw_cond rfl (fun hc78 => ?_) (fun hc78 => ?_)
          · have h := if_t h hc78
            refine aw_seq ?_
            refine aw_region ?_
            refine awl_val hτ rfl rfl rfl ?_
            refine awl_val hτ rfl rfl rfl ?_
            refine awl_val hτ rfl rfl rfl ?_
            refine awl_val hτ rfl rfl rfl ?_
            refine awl_val hτ rfl rfl rfl ?_
            refine awl_val hτ rfl rfl rfl ?_
            refine awl_val hτ rfl rfl rfl ?_
            refine awl_val hτ rfl rfl rfl ?_
            refine awl_weak (weak_ofP [0, 1, 2] (l := [(12, .d (.int .i64 v52)), (13, .d (.int .i64 v77)), (16, .ptr 1 0), (38, .row 2 x46.length 0 x46.length), (39, .d (.int .i64 (v45.length : Int))), (40, .d (.int .i64 v55)), (54, .d (.int .i64 v52)), (61, .d (.int .i64 (w64 (x75.Until - (if v54 > x75.From then v54 else x75.From)))))]) (objs := [.box [.d (.cx .f32 f_.Source.A.re f_.Source.A.im), .d (.cx .f32 f_.Source.B.re f_.Source.B.im), .d (.cx .f32 f_.Source.C.re f_.Source.C.im), .d (.sl false (f_.Buses.map eSBus))], .box [.d (.int .i64 x75.Bus), .d (.int .i64 x75.From), .d (.int .i64 x75.Until)], .row 3 (x46.map eSOutage)]) rfl (by simp) rfl (by repeat' first | exact trivial | refine ⟨?_, ?_⟩) ⟨rfl, trivial, rfl, trivial, rfl, trivial, rfl, trivial, rfl, trivial, rfl, trivial, rfl, trivial, rfl, trivial, trivial⟩) ?_
            refine awl_val hτ rfl rfl rfl ?_
            refine awl_val hτ rfl rfl rfl ?_
            refine awl_nil ?_
            refine aw_region ?_
            refine awl_val hτ rfl rfl rfl ?_
            refine awl_val hτ rfl rfl rfl ?_
            refine awl_val hτ rfl rfl rfl ?_
            refine awl_nil ?_
            refine aw_weak (weak_ofP [0, 2] (l := [(12, .d (.int .i64 (w64 (v52 + (w64 (x75.Until - (if v54 > x75.From then v54 else x75.From))))))), (13, .d (.int .i64 v77)), (14, .d (.int .i64 x75.Until)), (38, .row 1 x46.length 0 x46.length), (39, .d (.int .i64 (v45.length : Int))), (40, .d (.int .i64 v55))]) (objs := [.box [.d (.cx .f32 f_.Source.A.re f_.Source.A.im), .d (.cx .f32 f_.Source.B.re f_.Source.B.im), .d (.cx .f32 f_.Source.C.re f_.Source.C.im), .d (.sl false (f_.Buses.map eSBus))], .row 3 (x46.map eSOutage)]) rfl (by simp) rfl (by repeat' first | exact trivial | refine ⟨?_, ?_⟩) ⟨rfl, trivial, rfl, trivial, rfl, trivial, rfl, trivial, rfl, trivial, rfl, trivial, trivial⟩) ?_
            exact hk74 ((w64 (v52 + (w64 (x75.Until - (if v54 > x75.From then v54 else x75.From))))), v77, x75.Until) h
          · have h := if_f h hc78
            refine aw_skip ?_
            refine aw_weak (weak_ofP [0, 2] (l := [(12, .d (.int .i64 v52)), (13, .d (.int .i64 v77)), (14, .d (.int .i64 v54)), (38, .row 1 x46.length 0 x46.length), (39, .d (.int .i64 (v45.length : Int))), (40, .d (.int .i64 v55))]) (objs := [.box [.d (.cx .f32 f_.Source.A.re f_.Source.A.im), .d (.cx .f32 f_.Source.B.re f_.Source.B.im), .d (.cx .f32 f_.Source.C.re f_.Source.C.im), .d (.sl false (f_.Buses.map eSBus))], .row 3 (x46.map eSOutage)]) rfl (by simp) rfl (by repeat' first | exact trivial | refine ⟨?_, ?_⟩) ⟨rfl, trivial, rfl, trivial, rfl, trivial, rfl, trivial, rfl, trivial, rfl, trivial, trivial⟩) ?_
            exact hk74 (v52, v77, v54) h
        · refine aw_seq ?_
          refine aw_seq ?_
          refine aw_region ?_
          refine awl_val hτ rfl rfl rfl ?_
          refine awl_val hτ rfl rfl rfl ?_
          refine awl_val hτ rfl rfl rfl ?_
          refine awl_val hτ rfl rfl rfl ?_
          refine awl_nil ?_
          refine aw_weak (weak_ofP [0, 2, 1] (l := [(12, .d (.int .i64 v52)), (13, .d (.int .i64 v53)), (14, .d (.int .i64 v54)), (16, .ptr 1 0), (38, .row 2 x46.length 0 x46.length), (39, .d (.int .i64 (v45.length : Int))), (40, .d (.int .i64 v55)), (47, .d (.bool (decide (x75.From > v54))))]) (objs := [.box [.d (.cx .f32 f_.Source.A.re f_.Source.A.im), .d (.cx .f32 f_.Source.B.re f_.Source.B.im), .d (.cx .f32 f_.Source.C.re f_.Source.C.im), .d (.sl false (f_.Buses.map eSBus))], .box [.d (.int .i64 x75.Bus), .d (.int .i64 x75.From), .d (.int .i64 x75.Until)], .row 3 (x46.map eSOutage)]) rfl (by simp) rfl (by repeat' first | exact trivial | refine ⟨?_, ?_⟩) ⟨rfl, trivial, rfl, trivial, rfl, trivial, rfl, trivial, rfl, trivial, rfl, trivial, rfl, trivial, rfl, trivial, trivial⟩) ?_
          refine aw_cond rfl (fun hc80 => ?_) (fun hc80 => ?_)
          · have h := if_t h hc80
            refine aw_region ?_
            refine awl_val hτ rfl rfl rfl ?_
            refine awl_val hτ rfl rfl rfl ?_
            refine awl_val hτ rfl rfl rfl ?_
            refine awl_nil ?_
            refine aw_weak (weak_ofP [0, 1, 2] (l := [(12, .d (.int .i64 v52)), (13, .d (.int .i64 (w64 (v53 + (1 : Int))))), (14, .d (.int .i64 v54)), (16, .ptr 1 0), (38, .row 2 x46.length 0 x46.length), (39, .d (.int .i64 (v45.length : Int))), (40, .d (.int .i64 v55))]) (objs := [.box [.d (.cx .f32 f_.Source.A.re f_.Source.A.im), .d (.cx .f32 f_.Source.B.re f_.Source.B.im), .d (.cx .f32 f_.Source.C.re f_.Source.C.im), .d (.sl false (f_.Buses.map eSBus))], .box [.d (.int .i64 x75.Bus), .d (.int .i64 x75.From), .d (.int .i64 x75.Until)], .row 3 (x46.map eSOutage)]) rfl (by simp) rfl (by repeat' first | exact trivial | refine ⟨?_, ?_⟩) ⟨rfl, trivial, rfl, trivial, rfl, trivial, rfl, trivial, rfl, trivial, rfl, trivial, rfl, trivial, trivial⟩) ?_
            exact hk79 (w64 (v53 + (1 : Int))) h
          · have h := if_f h hc80
            refine aw_skip ?_
            refine aw_weak (weak_ofP [0, 1, 2] (l := [(12, .d (.int .i64 v52)), (13, .d (.int .i64 v53)), (14, .d (.int .i64 v54)), (16, .ptr 1 0), (38, .row 2 x46.length 0 x46.length), (39, .d (.int .i64 (v45.length : Int))), (40, .d (.int .i64 v55))]) (objs := [.box [.d (.cx .f32 f_.Source.A.re f_.Source.A.im), .d (.cx .f32 f_.Source.B.re f_.Source.B.im), .d (.cx .f32 f_.Source.C.re f_.Source.C.im), .d (.sl false (f_.Buses.map eSBus))], .box [.d (.int .i64 x75.Bus), .d (.int .i64 x75.From), .d (.int .i64 x75.Until)], .row 3 (x46.map eSOutage)]) rfl (by simp) rfl (by repeat' first | exact trivial | refine ⟨?_, ?_⟩) ⟨rfl, trivial, rfl, trivial, rfl, trivial, rfl, trivial, rfl, trivial, rfl, trivial, rfl, trivial, trivial⟩) ?_
            exact hk79 v53 h
    · have h := if_f h hc66
      refine aw_exit ?_
      refine aw_seq ?_
      refine aw_region ?_
      refine awl_val hτ rfl rfl rfl ?_
      refine awl_val hτ rfl rfl rfl ?_
      refine awl_val hτ rfl rfl rfl ?_
      refine awl_val hτ rfl rfl rfl ?_
      refine awl_nil ?_
      refine aw_weak (weak_ofP [0] (l := [(6, .d (.int .i64 v52)), (7, .d (.int .i64 v53))]) (objs := [.box [.d (.cx .f32 f_.Source.A.re f_.Source.A.im), .d (.cx .f32 f_.Source.B.re f_.Source.B.im), .d (.cx .f32 f_.Source.C.re f_.Source.C.im), .d (.sl false (f_.Buses.map eSBus))]]) rfl (by simp) rfl (by repeat' first | exact trivial | refine ⟨?_, ?_⟩) ⟨rfl, trivial, rfl, trivial, trivial⟩) ?_
      refine aw_ret ?_
      have hr := Option.some.inj h
      subst hr
      exact ret_objs (.inr rfl) [] (objs' := [.box [.d (.cx .f32 f_.Source.A.re f_.Source.A.im), .d (.cx .f32 f_.Source.B.re f_.Source.B.im), .d (.cx .f32 f_.Source.C.re f_.Source.C.im), .d (.sl false (f_.Buses.map eSBus))]]) (new := []) rfl (by simp) (by simp) rfl (by repeat' first | exact trivial | refine ⟨?_, ?_⟩) rfl rfl (by repeat' first | exact trivial | refine ⟨?_, ?_⟩) (fun h => nomatch h) ⟨rfl, rfl, rfl⟩
  · refine aw_seq ?_
    refine aw_seq ?_
    refine aw_weak (weak_ofP [0, 1, 2] (l := [(1, .d (.sl false (list_.map eSOutage))), (8, .row 1 x32.length 0 x32.length), (9, .row 2 (([] : List SOutage).length) 0 (([] : List SOutage).length))]) (objs := [.box [.d (.cx .f32 f_.Source.A.re f_.Source.A.im), .d (.cx .f32 f_.Source.B.re f_.Source.B.im), .d (.cx .f32 f_.Source.C.re f_.Source.C.im), .d (.sl false (f_.Buses.map eSBus))], .row 1 (x32.map eInti64), .row 3 (([] : List SOutage).map eSOutage)]) rfl (by simp) rfl (by repeat' first | exact trivial | refine ⟨?_, ?_⟩) ⟨rfl, trivial, rfl, trivial, rfl, trivial, trivial⟩) ?_
    refine aw_region ?_
    refine awl_val hτ rfl rfl rfl ?_
    refine awl_val hτ (v := .d (.int .i64 (list_.length : Int))) rfl rfl (Eq.trans rfl (or_len (f := eSOutage) list_)) ?_
    refine awl_val hτ rfl rfl rfl ?_
    refine awl_nil ?_
    refine aw_block ?_
    refine aw_loop (ι := Nat × List SOutage × Int) (fun (m94, v86, v87) => St.of [(8, .row 1 x32.length 0 x32.length), (9, .row 2 v86.length 0 v86.length), (21, .d (.sl false (list_.map eSOutage))), (22, .d (.int .i64 (list_.length : Int))), (23, .d (.int .i64 v87))] [.box [.d (.cx .f32 f_.Source.A.re f_.Source.A.im), .d (.cx .f32 f_.Source.B.re f_.Source.B.im), .d (.cx .f32 f_.Source.C.re f_.Source.C.im), .d (.sl false (f_.Buses.map eSBus))], .row 1 (x32.map eInti64), .row 3 (v86.map eSOutage)] f177.ntmps 1) (fun (m94, v86, v87) => m_impl_Feeder_dark_l5 n list_ x32 m94 v86 v87 = some r) (fun x => x.1) (n, ([] : List SOutage), (0 : Int)) h (weak_ofP [0, 1, 2] (l := [(8, .row 1 x32.length 0 x32.length), (9, .row 2 (([] : List SOutage).length) 0 (([] : List SOutage).length)), (21, .d (.sl false (list_.map eSOutage))), (22, .d (.int .i64 (list_.length : Int))), (23, .d (.int .i64 (0 : Int)))]) (objs := [.box [.d (.cx .f32 f_.Source.A.re f_.Source.A.im), .d (.cx .f32 f_.Source.B.re f_.Source.B.im), .d (.cx .f32 f_.Source.C.re f_.Source.C.im), .d (.sl false (f_.Buses.map eSBus))], .row 1 (x32.map eInti64), .row 3 (([] : List SOutage).map eSOutage)]) rfl (by simp) rfl (by repeat' first | exact trivial | refine ⟨?_, ?_⟩) ⟨rfl, trivial, rfl, trivial, rfl, trivial, rfl, trivial, rfl, trivial, trivial⟩) ?_
    rintro ⟨m94, v86, v87⟩ h
    replace h : m_impl_Feeder_dark_l5 n list_ x32 m94 v86 v87 = some r := h
    rcases m94 with _ | m94
    · rw [m_impl_Feeder_dark_l5] at h; cases h
    rw [m_impl_Feeder_dark_l5] at h
    refine aw_seq ?_
    refine aw_region ?_
    refine awl_val hτ rfl rfl rfl ?_
    refine awl_nil ?_
    refine aw_seq ?_
    refine aw_cond rfl (fun hc96 => ?_) (fun hc96 => ?_)
    · have h := if_t h hc96
      refine aw_skip ?_
      refine aw_hk1 (ι := List SOutage) (fun v101 => St.of [(8, .row 1 x32.length 0 x32.length), (9, .row 2 v101.length 0 v101.length), (21, .d (.sl false (list_.map eSOutage))), (22, .d (.int .i64 (list_.length : Int))), (23, .d (.int .i64 v87))] [.box [.d (.cx .f32 f_.Source.A.re f_.Source.A.im), .d (.cx .f32 f_.Source.B.re f_.Source.B.im), .d (.cx .f32 f_.Source.C.re f_.Source.C.im), .d (.sl false (f_.Buses.map eSBus))], .row 1 (x32.map eInti64), .row 3 (v101.map eSOutage)] f177.ntmps 1) (fun v101 => m_impl_Feeder_dark_j6 n (m_impl_Feeder_dark_l5 n list_ x32 m94) v87 v101 = some r) ?_ (fun hk102 => ?_)
      · rintro v101 h
        replace h : m_impl_Feeder_dark_j6 n (m_impl_Feeder_dark_l5 n list_ x32 m94) v87 v101 = some r := h
        unfold m_impl_Feeder_dark_j6 at h
        refine aw_region ?_
        refine awl_val hτ rfl rfl rfl ?_
        refine awl_val hτ rfl rfl rfl ?_
        refine awl_nil ?_
        exact ⟨(m94, v101, (w64 (v87 + (1 : Int)))), h, Nat.lt_succ_self m94, (weak_ofP [0, 1, 2] (l := [(8, .row 1 x32.length 0 x32.length), (9, .row 2 v101.length 0 v101.length), (21, .d (.sl false (list_.map eSOutage))), (22, .d (.int .i64 (list_.length : Int))), (23, .d (.int .i64 (w64 (v87 + (1 : Int)))))]) (objs := [.box [.d (.cx .f32 f_.Source.A.re f_.Source.A.im), .d (.cx .f32 f_.Source.B.re f_.Source.B.im), .d (.cx .f32 f_.Source.C.re f_.Source.C.im), .d (.sl false (f_.Buses.map eSBus))], .row 1 (x32.map eInti64), .row 3 (v101.map eSOutage)]) rfl (by simp) rfl (by repeat' first | exact trivial | refine ⟨?_, ?_⟩) ⟨rfl, trivial, rfl, trivial, rfl, trivial, rfl, trivial, rfl, trivial, trivial⟩)⟩
      · refine aw_seq ?_
        refine aw_block ?_
        refine aw_seq ?_
        refine aw_region ?_
        refine bnd_elim h fun x103 hx103 h => ?_
        refine awl_elem hτ rfl rfl rfl (getI_some hx103).1 (map_getI hx103) rfl ?_
        refine awl_val hτ rfl rfl rfl ?_
        refine awl_valH hτ rfl rfl rfl ?_
        refine awl_valH hτ rfl rfl rfl ?_
        refine awl_nil ?_
        refine aw_seq ?_
        refine aw_region ?_
        refine awl_val hτ rfl rfl rfl ?_
        refine awl_val hτ rfl rfl rfl ?_
        refine awl_val hτ rfl rfl rfl ?_
        refine awl_weak (weak_ofP [0, 1, 2, 3] (l := [(8, .row 1 x32.length 0 x32.length), (9, .row 2 v86.length 0 v86.length), (11, .ptr 3 0), (21, .d (.sl false (list_.map eSOutage))), (22, .d (.int .i64 (list_.length : Int))), (23, .d (.int .i64 v87)), (27, .row 1 x32.length 0 x32.length), (29, .d (.int .i64 x103.Bus))]) (objs := [.box [.d (.cx .f32 f_.Source.A.re f_.Source.A.im), .d (.cx .f32 f_.Source.B.re f_.Source.B.im), .d (.cx .f32 f_.Source.C.re f_.Source.C.im), .d (.sl false (f_.Buses.map eSBus))], .row 1 (x32.map eInti64), .row 3 (v86.map eSOutage), .box [.d (.int .i64 x103.Bus), .d (.int .i64 x103.From), .d (.int .i64 x103.Until)]]) rfl (by simp) rfl (by repeat' first | exact trivial | refine ⟨?_, ?_⟩) ⟨rfl, trivial, rfl, trivial, rfl, trivial, rfl, trivial, rfl, trivial, rfl, trivial, rfl, trivial, rfl, trivial, trivial⟩) ?_
        refine bnd_elim h fun x104 hx104 h => ?_
        refine awl_callP hτ true [] rfl rfl rfl (enterOk func150 rfl rfl) (mapO_cons (exV_view (f := eInti64) x32 rfl rfl rfl) (mapO_cons rfl mapO_nil)) rfl (by simp) ⟨(exVP_view (f := eInti64) x32 rfl rfl rfl), trivial, trivial⟩ (by repeat' first | exact trivial | refine ⟨?_, ?_⟩) (slices_Contains_ok_fr n x32 x103.Bus hx104) ?_
        rintro r0 o0 n0 ⟨rfl, rfl, rfl⟩ -
        refine awl_nil ?_
        refine aw_cond rfl (fun hc105 => ?_) (fun hc105 => ?_)
        · have h := if_bt h hc105
          refine aw_region ?_
          refine awl_val hτ rfl rfl rfl ?_
          refine awl_val hτ rfl rfl rfl ?_
          refine awl_valH hτ rfl rfl rfl ?_
          refine grd_elim h fun hg106 h => ?_
          refine awl_needH hτ rfl rfl (Eq.trans rfl (or_append (f := eSOutage) v86 [x103] rfl)) ⟨⟨rfl, Nat.le_of_ble_eq_true rfl⟩, len_map _, rfl, rfl, hg106, by decide, (all1 rfl)⟩ ?_
          refine awl_val hτ rfl rfl rfl ?_
          refine awl_nil ?_
          refine aw_weak (weak_ofP [0, 1, 2] (l := [(8, .row 1 x32.length 0 x32.length), (9, .row 2 ((v86 ++ [x103]).length) 0 ((v86 ++ [x103]).length)), (21, .d (.sl false (list_.map eSOutage))), (22, .d (.int .i64 (list_.length : Int))), (23, .d (.int .i64 v87))]) (objs := [.box [.d (.cx .f32 f_.Source.A.re f_.Source.A.im), .d (.cx .f32 f_.Source.B.re f_.Source.B.im), .d (.cx .f32 f_.Source.C.re f_.Source.C.im), .d (.sl false (f_.Buses.map eSBus))], .row 1 (x32.map eInti64), .row 3 ((v86 ++ [x103]).map eSOutage)]) rfl (by simp) rfl (by repeat' first | exact trivial | refine ⟨?_, ?_⟩) ⟨rfl, trivial, rfl, trivial, rfl, trivial, rfl, trivial, rfl, trivial, trivial⟩) ?_
          exact hk102 (v86 ++ [x103]) h
        · have h := if_bf h hc105
          refine aw_skip ?_
          refine aw_weak (weak_ofP [0, 1, 2] (l := [(8, .row 1 x32.length 0 x32.length), (9, .row 2 v86.length 0 v86.length), (21, .d (.sl false (list_.map eSOutage))), (22, .d (.int .i64 (list_.length : Int))), (23, .d (.int .i64 v87))]) (objs := [.box [.d (.cx .f32 f_.Source.A.re f_.Source.A.im), .d (.cx .f32 f_.Source.B.re f_.Source.B.im), .d (.cx .f32 f_.Source.C.re f_.Source.C.im), .d (.sl false (f_.Buses.map eSBus))], .row 1 (x32.map eInti64), .row 3 (v86.map eSOutage)]) rfl (by simp) rfl (by repeat' first | exact trivial | refine ⟨?_, ?_⟩) ⟨rfl, trivial, rfl, trivial, rfl, trivial, rfl, trivial, rfl, trivial, trivial⟩) ?_
          exact hk102 v86 h
    · have h := if_f h hc96
      refine aw_exit ?_
      refine aw_weak (weak_ofP [0, 2] (l := [(9, .row 1 v86.length 0 v86.length)]) (objs := [.box [.d (.cx .f32 f_.Source.A.re f_.Source.A.im), .d (.cx .f32 f_.Source.B.re f_.Source.B.im), .d (.cx .f32 f_.Source.C.re f_.Source.C.im), .d (.sl false (f_.Buses.map eSBus))], .row 3 (v86.map eSOutage)]) rfl (by simp) rfl (by repeat' first | exact trivial | refine ⟨?_, ?_⟩) ⟨rfl, trivial, trivial⟩) ?_
      exact hk81 v86 h

def m_impl_DarkTicks_j1 (n : Nat) (f_ : SFeeder) (list_ : List SOutage) (bus_ : Int) : Option (Int × Bool) :=
  (m_impl_Feeder_dark n f_ list_ bus_).bind fun x10 =>
  some (x10.1, true)
def m_impl_DarkTicks_j2 (n : Nat) (f_ : SFeeder) (list_ : List SOutage) (bus_ : Int) (v16 : Bool) : Option (Int × Bool) :=
  if v16 = true then
    some ((0 : Int), false)
  else
    m_impl_DarkTicks_j1 n f_ list_ bus_
def m_impl_DarkTicks (n : Nat) (f_ : SFeeder) (list_ : List SOutage) (bus_ : Int) : Option (Int × Bool) :=
  (m_impl_AreOutages n f_ list_).bind fun x19 =>
  if x19 = true then
    (m_impl_Feeder_has n f_ bus_).bind fun x21 =>
    m_impl_DarkTicks_j2 n f_ list_ bus_ (!x21)
  else
    m_impl_DarkTicks_j2 n f_ list_ bus_ true
theorem impl_DarkTicks_ok_fr0 (fr : Bool) (n : Nat) (f_ : SFeeder) (list_ : List SOutage) (bus_ : Int) {r : Int × Bool} (h : m_impl_DarkTicks n f_ list_ bus_ = some r) : ACall prog fr 75 [.agg [.d (.cx .f32 f_.Source.A.re f_.Source.A.im), .d (.cx .f32 f_.Source.B.re f_.Source.B.im), .d (.cx .f32 f_.Source.C.re f_.Source.C.im), .d (.sl false (f_.Buses.map eSBus))], .d (.sl false (list_.map eSOutage)), .d (.int .i64 bus_)] [] (fun v o new => v = .tup [.d (.int .i64 r.1), .d (.bool r.2)] ∧ o = [] ∧ new = []) := by
  refine acall_of_aw hτ func75 rfl (by simp) (by simp) ?_
  unfold m_impl_DarkTicks at h
  refine aw_seq ?_
  refine aw_region ?_
  refine awl_valH hτ rfl rfl rfl ?_
  refine awl_val hτ rfl rfl rfl ?_
  refine awl_val hτ rfl rfl rfl ?_
  refine awl_nil ?_
  refine aw_hk1 (ι := Unit) (fun _ => St.of [(1, .d (.sl false (list_.map eSOutage))), (2, .d (.int .i64 bus_)), (3, .ptr 0 0)] [.box [.d (.cx .f32 f_.Source.A.re f_.Source.A.im), .d (.cx .f32 f_.Source.B.re f_.Source.B.im), .d (.cx .f32 f_.Source.C.re f_.Source.C.im), .d (.sl false (f_.Buses.map eSBus))]] f75.ntmps 0) (fun _ => m_impl_DarkTicks_j1 n f_ list_ bus_ = some r) ?_ (fun hk11 => ?_)
  · rintro ⟨⟩ h
    replace h : m_impl_DarkTicks_j1 n f_ list_ bus_ = some r := h
    unfold m_impl_DarkTicks_j1 at h
    refine aw_seq ?_
    refine aw_region ?_
    refine awl_val hτ rfl rfl rfl ?_
    refine awl_val hτ rfl rfl rfl ?_
    refine bnd_elim h fun x10 hx10 h => ?_
    refine awl_callP hτ false [0] rfl rfl rfl (enterOk func177 rfl rfl) rfl rfl (by simp) ⟨trivial, trivial, trivial, trivial⟩ (by repeat' first | exact trivial | refine ⟨?_, ?_⟩) (impl_Feeder_dark_ok n f_ list_ bus_ hx10) ?_
    rintro r0 o0 n0 ⟨rfl, rfl, rfl⟩ -
    refine awl_val hτ rfl rfl rfl ?_
    refine awl_val hτ rfl rfl rfl ?_
    refine awl_val hτ rfl rfl rfl ?_
    refine awl_val hτ rfl rfl rfl ?_
    refine awl_val hτ rfl rfl rfl ?_
    refine awl_nil ?_
    refine aw_seq ?_
    refine aw_weak (weak_ofP [] (l := [(8, .d (.int .i64 x10.1))]) (objs := []) rfl (by simp) rfl (by repeat' first | exact trivial | refine ⟨?_, ?_⟩) ⟨rfl, trivial, trivial⟩) ?_
    refine aw_region ?_
    refine awl_val hτ rfl rfl rfl ?_
    refine awl_val hτ rfl rfl rfl ?_
    refine awl_val hτ rfl rfl rfl ?_
    refine awl_nil ?_
    refine aw_weak (weak_ofP [] (l := [(6, .d (.int .i64 x10.1)), (7, .d (.bool true))]) (objs := []) rfl (by simp) rfl (by repeat' first | exact trivial | refine ⟨?_, ?_⟩) ⟨rfl, trivial, rfl, trivial, trivial⟩) ?_
    refine aw_ret ?_
    have hr := Option.some.inj h
    subst hr
    exact ret_objs (.inr rfl) [] (objs' := []) (new := []) rfl (by simp) (by simp) rfl (by repeat' first | exact trivial | refine ⟨?_, ?_⟩) rfl rfl (by repeat' first | exact trivial | refine ⟨?_, ?_⟩) (fun _ => ⟨by simp [V.flat, V.flatA, V.flatC, D.flat], flat_nil⟩) ⟨rfl, rfl, rfl⟩
  · refine aw_seq ?_
    refine aw_hk1 (ι := Bool) (fun v16 => St.of [(1, .d (.sl false (list_.map eSOutage))), (2, .d (.int .i64 bus_)), (3, .ptr 0 0), (18, .d (.bool v16))] [.box [.d (.cx .f32 f_.Source.A.re f_.Source.A.im), .d (.cx .f32 f_.Source.B.re f_.Source.B.im), .d (.cx .f32 f_.Source.C.re f_.Source.C.im), .d (.sl false (f_.Buses.map eSBus))]] f75.ntmps 0) (fun v16 => m_impl_DarkTicks_j2 n f_ list_ bus_ v16 = some r) ?_ (fun hk18 => ?_)
    · rintro v16 h
      replace h : m_impl_DarkTicks_j2 n f_ list_ bus_ v16 = some r := h
      unfold m_impl_DarkTicks_j2 at h
      refine aw_cond rfl (fun hc17 => ?_) (fun hc17 => ?_)
      · have h := if_bt h hc17
        refine aw_seq ?_
        refine aw_region ?_
        refine awl_val hτ rfl rfl rfl ?_
        refine awl_val hτ rfl rfl rfl ?_
        refine awl_nil ?_
        refine aw_weak (weak_ofP [] (l := [(6, .d (.int .i64 (0 : Int))), (7, .d (.bool false))]) (objs := []) rfl (by simp) rfl (by repeat' first | exact trivial | refine ⟨?_, ?_⟩) ⟨rfl, trivial, rfl, trivial, trivial⟩) ?_
        refine aw_ret ?_
        have hr := Option.some.inj h
        subst hr
        exact ret_objs (.inr rfl) [] (objs' := []) (new := []) rfl (by simp) (by simp) rfl (by repeat' first | exact trivial | refine ⟨?_, ?_⟩) rfl rfl (by repeat' first | exact trivial | refine ⟨?_, ?_⟩) (fun _ => ⟨by simp [V.flat, V.flatA, V.flatC, D.flat], flat_nil⟩) ⟨rfl, rfl, rfl⟩
      · have h := if_bf h hc17
        refine aw_skip ?_
        refine aw_weak (weak_ofP [0] (l := [(1, .d (.sl false (list_.map eSOutage))), (2, .d (.int .i64 bus_)), (3, .ptr 0 0)]) (objs := [.box [.d (.cx .f32 f_.Source.A.re f_.Source.A.im), .d (.cx .f32 f_.Source.B.re f_.Source.B.im), .d (.cx .f32 f_.Source.C.re f_.Source.C.im), .d (.sl false (f_.Buses.map eSBus))]]) rfl (by simp) rfl (by repeat' first | exact trivial | refine ⟨?_, ?_⟩) ⟨rfl, trivial, rfl, trivial, rfl, trivial, trivial⟩) ?_
        exact hk11 () h
    · refine aw_seq ?_
      refine aw_region ?_
      refine awl_val hτ rfl rfl rfl ?_
      refine awl_val hτ rfl rfl rfl ?_
      refine bnd_elim h fun x19 hx19 h => ?_
      refine awl_callP hτ false [] rfl rfl rfl (enterOk func81 rfl rfl) rfl rfl (by simp) ⟨(by repeat' first | exact trivial | refine ⟨?_, ?_⟩), trivial, trivial⟩ (by repeat' first | exact trivial | refine ⟨?_, ?_⟩) (impl_AreOutages_ok n f_ list_ hx19) ?_
      rintro r0 o0 n0 ⟨rfl, rfl, rfl⟩ -
      refine awl_val hτ rfl rfl rfl ?_
      refine awl_val hτ rfl rfl rfl ?_
      refine awl_split 14 rfl (fun hb20 => ?_) (fun hb20 => ?_)
      · have hb20 := not_t hb20
        have h := if_bf h hb20
        refine awl_skip rfl rfl ?_
        refine awl_skip rfl rfl ?_
        refine awl_skip rfl rfl ?_
        refine awl_val hτ rfl rfl rfl ?_
        refine awl_nil ?_
        refine aw_weak (weak_ofP [0] (l := [(1, .d (.sl false (list_.map eSOutage))), (2, .d (.int .i64 bus_)), (3, .ptr 0 0), (18, .d (.bool true))]) (objs := [.box [.d (.cx .f32 f_.Source.A.re f_.Source.A.im), .d (.cx .f32 f_.Source.B.re f_.Source.B.im), .d (.cx .f32 f_.Source.C.re f_.Source.C.im), .d (.sl false (f_.Buses.map eSBus))]]) rfl (by simp) rfl (by repeat' first | exact trivial | refine ⟨?_, ?_⟩) ⟨rfl, trivial, rfl, trivial, rfl, trivial, rfl, trivial, trivial⟩) ?_
        exact hk18 true h
      · have hb20 := not_f hb20
        have h := if_bt h hb20
        refine awl_val hτ rfl rfl rfl ?_
        refine bnd_elim h fun x21 hx21 h => ?_
        refine awl_callP hτ false [0] rfl rfl rfl (enterOk func128 rfl rfl) rfl rfl (by simp) ⟨trivial, trivial, trivial⟩ (by repeat' first | exact trivial | refine ⟨?_, ?_⟩) (impl_Feeder_has_ok n f_ bus_ hx21) ?_
        rintro r0 o0 n0 ⟨rfl, rfl, rfl⟩ -
        refine awl_val hτ rfl rfl rfl ?_
        refine awl_val hτ rfl rfl rfl ?_
        refine awl_nil ?_
        refine aw_weak (weak_ofP [0] (l := [(1, .d (.sl false (list_.map eSOutage))), (2, .d (.int .i64 bus_)), (3, .ptr 0 0), (18, .d (.bool (!x21)))]) (objs := [.box [.d (.cx .f32 f_.Source.A.re f_.Source.A.im), .d (.cx .f32 f_.Source.B.re f_.Source.B.im), .d (.cx .f32 f_.Source.C.re f_.Source.C.im), .d (.sl false (f_.Buses.map eSBus))]]) rfl (by simp) rfl (by repeat' first | exact trivial | refine ⟨?_, ?_⟩) ⟨rfl, trivial, rfl, trivial, rfl, trivial, rfl, trivial, trivial⟩) ?_
        exact hk18 (!x21) h
theorem impl_DarkTicks_ok (n : Nat) (f_ : SFeeder) (list_ : List SOutage) (bus_ : Int) {r : Int × Bool} (h : m_impl_DarkTicks n f_ list_ bus_ = some r) : ACall prog false 75 [.agg [.d (.cx .f32 f_.Source.A.re f_.Source.A.im), .d (.cx .f32 f_.Source.B.re f_.Source.B.im), .d (.cx .f32 f_.Source.C.re f_.Source.C.im), .d (.sl false (f_.Buses.map eSBus))], .d (.sl false (list_.map eSOutage)), .d (.int .i64 bus_)] [] (fun v o new => v = .tup [.d (.int .i64 r.1), .d (.bool r.2)] ∧ o = [] ∧ new = []) := impl_DarkTicks_ok_fr0 false n f_ list_ bus_ h
theorem impl_DarkTicks_ok_fr (n : Nat) (f_ : SFeeder) (list_ : List SOutage) (bus_ : Int) {r : Int × Bool} (h : m_impl_DarkTicks n f_ list_ bus_ = some r) : ACall prog true 75 [.agg [.d (.cx .f32 f_.Source.A.re f_.Source.A.im), .d (.cx .f32 f_.Source.B.re f_.Source.B.im), .d (.cx .f32 f_.Source.C.re f_.Source.C.im), .d (.sl false (f_.Buses.map eSBus))], .d (.sl false (list_.map eSOutage)), .d (.int .i64 bus_)] [] (fun v o new => v = .tup [.d (.int .i64 r.1), .d (.bool r.2)] ∧ o = [] ∧ new = []) := impl_DarkTicks_ok_fr0 true n f_ list_ bus_ h

def m_impl_DarkTimes_j1 (n : Nat) (f_ : SFeeder) (list_ : List SOutage) (bus_ : Int) : Option (Int × Bool) :=
  (m_impl_Feeder_dark n f_ list_ bus_).bind fun x10 =>
  some (x10.2, true)
def m_impl_DarkTimes_j2 (n : Nat) (f_ : SFeeder) (list_ : List SOutage) (bus_ : Int) (v16 : Bool) : Option (Int × Bool) :=
  if v16 = true then
    some ((0 : Int), false)
  else
    m_impl_DarkTimes_j1 n f_ list_ bus_
def m_impl_DarkTimes (n : Nat) (f_ : SFeeder) (list_ : List SOutage) (bus_ : Int) : Option (Int × Bool) :=
  (m_impl_AreOutages n f_ list_).bind fun x19 =>
  if x19 = true then
    (m_impl_Feeder_has n f_ bus_).bind fun x21 =>
    m_impl_DarkTimes_j2 n f_ list_ bus_ (!x21)
  else
    m_impl_DarkTimes_j2 n f_ list_ bus_ true
theorem impl_DarkTimes_ok_fr0 (fr : Bool) (n : Nat) (f_ : SFeeder) (list_ : List SOutage) (bus_ : Int) {r : Int × Bool} (h : m_impl_DarkTimes n f_ list_ bus_ = some r) : ACall prog fr 76 [.agg [.d (.cx .f32 f_.Source.A.re f_.Source.A.im), .d (.cx .f32 f_.Source.B.re f_.Source.B.im), .d (.cx .f32 f_.Source.C.re f_.Source.C.im), .d (.sl false (f_.Buses.map eSBus))], .d (.sl false (list_.map eSOutage)), .d (.int .i64 bus_)] [] (fun v o new => v = .tup [.d (.int .i64 r.1), .d (.bool r.2)] ∧ o = [] ∧ new = []) := by
  refine acall_of_aw hτ func76 rfl (by simp) (by simp) ?_
  unfold m_impl_DarkTimes at h
  refine aw_seq ?_
  refine aw_region ?_
  refine awl_valH hτ rfl rfl rfl ?_
  refine awl_val hτ rfl rfl rfl ?_
  refine awl_val hτ rfl rfl rfl ?_
  refine awl_nil ?_
  refine aw_hk1 (ι := Unit) (fun _ => St.of [(1, .d (.sl false (list_.map eSOutage))), (2, .d (.int .i64 bus_)), (3, .ptr 0 0)] [.box [.d (.cx .f32 f_.Source.A.re f_.Source.A.im), .d (.cx .f32 f_.Source.B.re f_.Source.B.im), .d (.cx .f32 f_.Source.C.re f_.Source.C.im), .d (.sl false (f_.Buses.map eSBus))]] f76.ntmps 0) (fun _ => m_impl_DarkTimes_j1 n f_ list_ bus_ = some r) ?_ (fun hk11 => ?_)
  · rintro ⟨⟩ h
    replace h : m_impl_DarkTimes_j1 n f_ list_ bus_ = some r := h
    unfold m_impl_DarkTimes_j1 at h
    refine aw_seq ?_
    refine aw_region ?_
    refine awl_val hτ rfl rfl rfl ?_
    refine awl_val hτ rfl rfl rfl ?_
    refine bnd_elim h fun x10 hx10 h => ?_
    refine awl_callP hτ false [0] rfl rfl rfl (enterOk func177 rfl rfl) rfl rfl (by simp) ⟨trivial, trivial, trivial, trivial⟩ (by repeat' first | exact trivial | refine ⟨?_, ?_⟩) (impl_Feeder_dark_ok n f_ list_ bus_ hx10) ?_
    rintro r0 o0 n0 ⟨rfl, rfl, rfl⟩ -
    refine awl_val hτ rfl rfl rfl ?_
    refine awl_val hτ rfl rfl rfl ?_
    refine awl_val hτ rfl rfl rfl ?_
    refine awl_val hτ rfl rfl rfl ?_
    refine awl_val hτ rfl rfl rfl ?_
    refine awl_nil ?_
    refine aw_seq ?_
    refine aw_weak (weak_ofP [] (l := [(9, .d (.int .i64 x10.2))]) (objs := []) rfl (by simp) rfl (by repeat' first | exact trivial | refine ⟨?_, ?_⟩) ⟨rfl, trivial, trivial⟩) ?_
    refine aw_region ?_
    refine awl_val hτ rfl rfl rfl ?_
    refine awl_val hτ rfl rfl rfl ?_
    refine awl_val hτ rfl rfl rfl ?_
    refine awl_nil ?_
    refine aw_weak (weak_ofP [] (l := [(6, .d (.int .i64 x10.2)), (7, .d (.bool true))]) (objs := []) rfl (by simp) rfl (by repeat' first | exact trivial | refine ⟨?_, ?_⟩) ⟨rfl, trivial, rfl, trivial, trivial⟩) ?_
    refine aw_ret ?_
    have hr := Option.some.inj h
    subst hr
    exact ret_objs (.inr rfl) [] (objs' := []) (new := []) rfl (by simp) (by simp) rfl (by repeat' first | exact trivial | refine ⟨?_, ?_⟩) rfl rfl (by repeat' first | exact trivial | refine ⟨?_, ?_⟩) (fun _ => ⟨by simp [V.flat, V.flatA, V.flatC, D.flat], flat_nil⟩) ⟨rfl, rfl, rfl⟩
  · refine aw_seq ?_
    refine aw_hk1 (ι := Bool) (fun v16 => St.of [(1, .d (.sl false (list_.map eSOutage))), (2, .d (.int .i64 bus_)), (3, .ptr 0 0), (18, .d (.bool v16))] [.box [.d (.cx .f32 f_.Source.A.re f_.Source.A.im), .d (.cx .f32 f_.Source.B.re f_.Source.B.im), .d (.cx .f32 f_.Source.C.re f_.Source.C.im), .d (.sl false (f_.Buses.map eSBus))]] f76.ntmps 0) (fun v16 => m_impl_DarkTimes_j2 n f_ list_ bus_ v16 = some r) ?_ (fun hk18 => ?_)
    · rintro v16 h
      replace h : m_impl_DarkTimes_j2 n f_ list_ bus_ v16 = some r := h
      unfold m_impl_DarkTimes_j2 at h
      refine aw_cond rfl (fun hc17 => ?_) (fun hc17 => ?_)
      · have h := if_bt h hc17
        refine aw_seq ?_
        refine aw_region ?_
        refine awl_val hτ rfl rfl rfl ?_
        refine awl_val hτ rfl rfl rfl ?_
        refine awl_nil ?_
        refine aw_weak (weak_ofP [] (l := [(6, .d (.int .i64 (0 : Int))), (7, .d (.bool false))]) (objs := []) rfl (by simp) rfl (by repeat' first | exact trivial | refine ⟨?_, ?_⟩) ⟨rfl, trivial, rfl, trivial, trivial⟩) ?_
        refine aw_ret ?_
        have hr := Option.some.inj h
        subst hr
        exact ret_objs (.inr rfl) [] (objs' := []) (new := []) rfl (by simp) (by simp) rfl (by repeat' first | exact trivial | refine ⟨?_, ?_⟩) rfl rfl (by repeat' first | exact trivial | refine ⟨?_, ?_⟩) (fun _ => ⟨by simp [V.flat, V.flatA, V.flatC, D.flat], flat_nil⟩) ⟨rfl, rfl, rfl⟩
      · have h := if_bf h hc17
        refine aw_skip ?_
        refine aw_weak (weak_ofP [0] (l := [(1, .d (.sl false (list_.map eSOutage))), (2, .d (.int .i64 bus_)), (3, .ptr 0 0)]) (objs := [.box [.d (.cx .f32 f_.Source.A.re f_.Source.A.im), .d (.cx .f32 f_.Source.B.re f_.Source.B.im), .d (.cx .f32 f_.Source.C.re f_.Source.C.im), .d (.sl false (f_.Buses.map eSBus))]]) rfl (by simp) rfl (by repeat' first | exact trivial | refine ⟨?_, ?_⟩) ⟨rfl, trivial, rfl, trivial, rfl, trivial, trivial⟩) ?_
        exact hk11 () h
    · refine aw_seq ?_
      refine aw_region ?_
      refine awl_val hτ rfl rfl rfl ?_
      refine awl_val hτ rfl rfl rfl ?_
      refine bnd_elim h fun x19 hx19 h => ?_
      refine awl_callP hτ false [] rfl rfl rfl (enterOk func81 rfl rfl) rfl rfl (by simp) ⟨(by repeat' first | exact trivial | refine ⟨?_, ?_⟩), trivial, trivial⟩ (by repeat' first | exact trivial | refine ⟨?_, ?_⟩) (impl_AreOutages_ok n f_ list_ hx19) ?_
      rintro r0 o0 n0 ⟨rfl, rfl, rfl⟩ -
      refine awl_val hτ rfl rfl rfl ?_
      refine awl_val hτ rfl rfl rfl ?_
      refine awl_split 14 rfl (fun hb20 => ?_) (fun hb20 => ?_)
      · have hb20 := not_t hb20
        have h := if_bf h hb20
        refine awl_skip rfl rfl ?_
        refine awl_skip rfl rfl ?_
        refine awl_skip rfl rfl ?_
        refine awl_val hτ rfl rfl rfl ?_
        refine awl_nil ?_
        refine aw_weak (weak_ofP [0] (l := [(1, .d (.sl false (list_.map eSOutage))), (2, .d (.int .i64 bus_)), (3, .ptr 0 0), (18, .d (.bool true))]) (objs := [.box [.d (.cx .f32 f_.Source.A.re f_.Source.A.im), .d (.cx .f32 f_.Source.B.re f_.Source.B.im), .d (.cx .f32 f_.Source.C.re f_.Source.C.im), .d (.sl false (f_.Buses.map eSBus))]]) rfl (by simp) rfl (by repeat' first | exact trivial | refine ⟨?_, ?_⟩) ⟨rfl, trivial, rfl, trivial, rfl, trivial, rfl, trivial, trivial⟩) ?_
        exact hk18 true h
      · have hb20 := not_f hb20
        have h := if_bt h hb20
        refine awl_val hτ rfl rfl rfl ?_
        refine bnd_elim h fun x21 hx21 h => ?_
        refine awl_callP hτ false [0] rfl rfl rfl (enterOk func128 rfl rfl) rfl rfl (by simp) ⟨trivial, trivial, trivial⟩ (by repeat' first | exact trivial | refine ⟨?_, ?_⟩) (impl_Feeder_has_ok n f_ bus_ hx21) ?_
        rintro r0 o0 n0 ⟨rfl, rfl, rfl⟩ -
        refine awl_val hτ rfl rfl rfl ?_
        refine awl_val hτ rfl rfl rfl ?_
        refine awl_nil ?_
        refine aw_weak (weak_ofP [0] (l := [(1, .d (.sl false (list_.map eSOutage))), (2, .d (.int .i64 bus_)), (3, .ptr 0 0), (18, .d (.bool (!x21)))]) (objs := [.box [.d (.cx .f32 f_.Source.A.re f_.Source.A.im), .d (.cx .f32 f_.Source.B.re f_.Source.B.im), .d (.cx .f32 f_.Source.C.re f_.Source.C.im), .d (.sl false (f_.Buses.map eSBus))]]) rfl (by simp) rfl (by repeat' first | exact trivial | refine ⟨?_, ?_⟩) ⟨rfl, trivial, rfl, trivial, rfl, trivial, rfl, trivial, trivial⟩) ?_
        exact hk18 (!x21) h
theorem impl_DarkTimes_ok (n : Nat) (f_ : SFeeder) (list_ : List SOutage) (bus_ : Int) {r : Int × Bool} (h : m_impl_DarkTimes n f_ list_ bus_ = some r) : ACall prog false 76 [.agg [.d (.cx .f32 f_.Source.A.re f_.Source.A.im), .d (.cx .f32 f_.Source.B.re f_.Source.B.im), .d (.cx .f32 f_.Source.C.re f_.Source.C.im), .d (.sl false (f_.Buses.map eSBus))], .d (.sl false (list_.map eSOutage)), .d (.int .i64 bus_)] [] (fun v o new => v = .tup [.d (.int .i64 r.1), .d (.bool r.2)] ∧ o = [] ∧ new = []) := impl_DarkTimes_ok_fr0 false n f_ list_ bus_ h
theorem impl_DarkTimes_ok_fr (n : Nat) (f_ : SFeeder) (list_ : List SOutage) (bus_ : Int) {r : Int × Bool} (h : m_impl_DarkTimes n f_ list_ bus_ = some r) : ACall prog true 76 [.agg [.d (.cx .f32 f_.Source.A.re f_.Source.A.im), .d (.cx .f32 f_.Source.B.re f_.Source.B.im), .d (.cx .f32 f_.Source.C.re f_.Source.C.im), .d (.sl false (f_.Buses.map eSBus))], .d (.sl false (list_.map eSOutage)), .d (.int .i64 bus_)] [] (fun v o new => v = .tup [.d (.int .i64 r.1), .d (.bool r.2)] ∧ o = [] ∧ new = []) := impl_DarkTimes_ok_fr0 true n f_ list_ bus_ h

def m_impl_Feeder_customerSums_l1 (n : Nat) (f_ : SFeeder) (list_ : List SOutage) : Nat → Int → Int → Int → Option (Int × Int)
  | 0, _, _, _ => none
  | m21 + 1, v13, v14, v15 =>
    if v15 < (f_.Buses.length : Int) then
      (getI f_.Buses v15).bind fun x24 =>
      (m_impl_Feeder_dark n f_ list_ v15).bind fun x25 =>
      (m_impl_Feeder_customerSums_l1 n f_ list_ m21) (w64 (v13 + (w64 (x24.Customers * x25.1)))) (w64 (v14 + (w64 (x24.Customers * x25.2)))) (w64 (v15 + (1 : Int)))
    else
      some (v13, v14)
def m_impl_Feeder_customerSums (n : Nat) (f_ : SFeeder) (list_ : List SOutage) : Option (Int × Int) :=
  m_impl_Feeder_customerSums_l1 n f_ list_ n (0 : Int) (0 : Int) (0 : Int)
theorem impl_Feeder_customerSums_ok (n : Nat) (f_ : SFeeder) (list_ : List SOutage) {r : Int × Int} (h : m_impl_Feeder_customerSums n f_ list_ = some r) : ACall prog false 178 [.ptr 0 0, .d (.sl false (list_.map eSOutage))] [.box [.d (.cx .f32 f_.Source.A.re f_.Source.A.im), .d (.cx .f32 f_.Source.B.re f_.Source.B.im), .d (.cx .f32 f_.Source.C.re f_.Source.C.im), .d (.sl false (f_.Buses.map eSBus))]] (fun v o new => v = .tup [.d (.int .i64 r.1), .d (.int .i64 r.2)] ∧ o = [.box [.d (.cx .f32 f_.Source.A.re f_.Source.A.im), .d (.cx .f32 f_.Source.B.re f_.Source.B.im), .d (.cx .f32 f_.Source.C.re f_.Source.C.im), .d (.sl false (f_.Buses.map eSBus))]] ∧ new = []) := by
  refine acall_of_aw hτ func178 rfl (by simp) (by simp) ?_
  unfold m_impl_Feeder_customerSums at h
  refine aw_seq ?_
  refine aw_region ?_
  refine awl_val hτ rfl rfl rfl ?_
  refine awl_val hτ rfl rfl rfl ?_
  refine awl_nil ?_
  refine aw_seq ?_
  refine aw_region ?_
  refine awl_val hτ rfl rfl rfl ?_
  refine awl_val hτ rfl rfl rfl ?_
  refine awl_nil ?_
  refine aw_seq ?_
  refine aw_seq ?_
  refine aw_region ?_
  refine awl_val hτ rfl rfl rfl ?_
  refine awl_val hτ rfl rfl rfl ?_
  refine awl_val hτ rfl rfl rfl ?_
  refine awl_val hτ rfl rfl rfl ?_
  refine awl_val hτ (v := .d (.int .i64 (f_.Buses.length : Int))) rfl rfl (Eq.trans rfl (or_len (f := eSBus) f_.Buses)) ?_
  refine awl_val hτ rfl rfl rfl ?_
  refine awl_nil ?_
  refine aw_block ?_
  refine aw_loop (ι := Nat × Int × Int × Int) (fun (m21, v13, v14, v15) => St.of [(0, .ptr 0 0), (1, .d (.sl false (list_.map eSOutage))), (6, .d (.int .i64 v13)), (7, .d (.int .i64 v14)), (15, .d (.sl false (f_.Buses.map eSBus))), (16, .d (.int .i64 (f_.Buses.length : Int))), (17, .d (.int .i64 v15))] [.box [.d (.cx .f32 f_.Source.A.re f_.Source.A.im), .d (.cx .f32 f_.Source.B.re f_.Source.B.im), .d (.cx .f32 f_.Source.C.re f_.Source.C.im), .d (.sl false (f_.Buses.map eSBus))]] f178.ntmps 1) (fun (m21, v13, v14, v15) => m_impl_Feeder_customerSums_l1 n f_ list_ m21 v13 v14 v15 = some r) (fun x => x.1) (n, (0 : Int), (0 : Int), (0 : Int)) h (weak_ofP [0] (l := [(0, .ptr 0 0), (1, .d (.sl false (list_.map eSOutage))), (6, .d (.int .i64 (0 : Int))), (7, .d (.int .i64 (0 : Int))), (15, .d (.sl false (f_.Buses.map eSBus))), (16, .d (.int .i64 (f_.Buses.length : Int))), (17, .d (.int .i64 (0 : Int)))]) (objs := [.box [.d (.cx .f32 f_.Source.A.re f_.Source.A.im), .d (.cx .f32 f_.Source.B.re f_.Source.B.im), .d (.cx .f32 f_.Source.C.re f_.Source.C.im), .d (.sl false (f_.Buses.map eSBus))]]) rfl (by simp) rfl (by repeat' first | exact trivial | refine ⟨?_, ?_⟩) ⟨rfl, trivial, rfl, trivial, rfl, trivial, rfl, trivial, rfl, trivial, rfl, trivial, rfl, trivial, trivial⟩) ?_
  rintro ⟨m21, v13, v14, v15⟩ h
  replace h : m_impl_Feeder_customerSums_l1 n f_ list_ m21 v13 v14 v15 = some r := h
  rcases m21 with _ | m21
  · rw [m_impl_Feeder_customerSums_l1] at h; cases h
  rw [m_impl_Feeder_customerSums_l1] at h
  refine aw_seq ?_
  refine aw_region ?_
  refine awl_val hτ rfl rfl rfl ?_
  refine awl_nil ?_
  refine aw_seq ?_
  refine aw_cond rfl (fun hc23 => ?_) (fun hc23 => ?_)
  · have h := if_t h hc23
    refine aw_skip ?_
    refine aw_seq ?_
    refine aw_block ?_
    refine aw_seq ?_
    refine aw_region ?_
    refine awl_val hτ rfl rfl rfl ?_
    refine bnd_elim h fun x24 hx24 h => ?_
    refine awl_elem hτ rfl rfl rfl (getI_some hx24).1 (map_getI hx24) rfl ?_
    refine awl_val hτ rfl rfl rfl ?_
    refine awl_valH hτ rfl rfl rfl ?_
    refine awl_val hτ rfl rfl rfl ?_
    refine awl_valH hτ rfl rfl rfl ?_
    refine awl_nil ?_
    refine aw_seq ?_
    refine aw_weak (weak_ofP [0, 1] (l := [(0, .ptr 0 0), (1, .d (.sl false (list_.map eSOutage))), (6, .d (.int .i64 v13)), (7, .d (.int .i64 v14)), (8, .d (.int .i64 v15)), (9, .ptr 1 0), (15, .d (.sl false (f_.Buses.map eSBus))), (16, .d (.int .i64 (f_.Buses.length : Int))), (17, .d (.int .i64 v15))]) (objs := [.box [.d (.cx .f32 f_.Source.A.re f_.Source.A.im), .d (.cx .f32 f_.Source.B.re f_.Source.B.im), .d (.cx .f32 f_.Source.C.re f_.Source.C.im), .d (.sl false (f_.Buses.map eSBus))], .box [.d (.int .i64 x24.Parent), .d (.cx .f32 x24.Own.re x24.Own.im), .d (.cx .f32 x24.Shared.re x24.Shared.im), .d (.int .i64 x24.Kind), .d (.cx .f32 x24.Load.A.re x24.Load.A.im), .d (.cx .f32 x24.Load.B.re x24.Load.B.im), .d (.cx .f32 x24.Load.C.re x24.Load.C.im), .d (.int .i64 x24.Customers)]]) rfl (by simp) rfl (by repeat' first | exact trivial | refine ⟨?_, ?_⟩) ⟨rfl, trivial, rfl, trivial, rfl, trivial, rfl, trivial, rfl, trivial, rfl, trivial, rfl, trivial, rfl, trivial, rfl, trivial, trivial⟩) ?_
    refine aw_region ?_
    refine awl_val hτ rfl rfl rfl ?_
    refine awl_val hτ rfl rfl rfl ?_
    refine awl_val hτ rfl rfl rfl ?_
    refine bnd_elim h fun x25 hx25 h => ?_
    refine awl_callP hτ false [0] rfl rfl rfl (enterOk func177 rfl rfl) rfl rfl (by simp) ⟨trivial, trivial, trivial, trivial⟩ (by repeat' first | exact trivial | refine ⟨?_, ?_⟩) (impl_Feeder_dark_ok n f_ list_ v15 hx25) ?_
    rintro r0 o0 n0 ⟨rfl, rfl, rfl⟩ -
    refine awl_val hτ rfl rfl rfl ?_
    refine awl_val hτ rfl rfl rfl ?_
    refine awl_val hτ rfl rfl rfl ?_
    refine awl_val hτ rfl rfl rfl ?_
    refine awl_val hτ rfl rfl rfl ?_
    refine awl_nil ?_
    refine aw_seq ?_
    refine aw_weak (weak_ofP [0, 1] (l := [(0, .ptr 0 0), (1, .d (.sl false (list_.map eSOutage))), (6, .d (.int .i64 v13)), (7, .d (.int .i64 v14)), (9, .ptr 1 0), (10, .d (.int .i64 x25.1)), (11, .d (.int .i64 x25.2)), (15, .d (.sl false (f_.Buses.map eSBus))), (16, .d (.int .i64 (f_.Buses.length : Int))), (17, .d (.int .i64 v15))]) (objs := [.box [.d (.cx .f32 f_.Source.A.re f_.Source.A.im), .d (.cx .f32 f_.Source.B.re f_.Source.B.im), .d (.cx .f32 f_.Source.C.re f_.Source.C.im), .d (.sl false (f_.Buses.map eSBus))], .box [.d (.int .i64 x24.Parent), .d (.cx .f32 x24.Own.re x24.Own.im), .d (.cx .f32 x24.Shared.re x24.Shared.im), .d (.int .i64 x24.Kind), .d (.cx .f32 x24.Load.A.re x24.Load.A.im), .d (.cx .f32 x24.Load.B.re x24.Load.B.im), .d (.cx .f32 x24.Load.C.re x24.Load.C.im), .d (.int .i64 x24.Customers)]]) rfl (by simp) rfl (by repeat' first | exact trivial | refine ⟨?_, ?_⟩) ⟨rfl, trivial, rfl, trivial, rfl, trivial, rfl, trivial, rfl, trivial, rfl, trivial, rfl, trivial, rfl, trivial, rfl, trivial, rfl, trivial, trivial⟩) ?_
    refine aw_region ?_
    refine awl_val hτ rfl rfl rfl ?_
    refine awl_val hτ rfl rfl rfl ?_
    refine awl_val hτ rfl rfl rfl ?_
    refine awl_val hτ rfl rfl rfl ?_
    refine awl_val hτ rfl rfl rfl ?_
    refine awl_val hτ rfl rfl rfl ?_
    refine awl_val hτ rfl rfl rfl ?_
    refine awl_nil ?_
    refine aw_weak (weak_ofP [0, 1] (l := [(0, .ptr 0 0), (1, .d (.sl false (list_.map eSOutage))), (6, .d (.int .i64 (w64 (v13 + (w64 (x24.Customers * x25.1)))))), (7, .d (.int .i64 v14)), (9, .ptr 1 0), (11, .d (.int .i64 x25.2)), (15, .d (.sl false (f_.Buses.map eSBus))), (16, .d (.int .i64 (f_.Buses.length : Int))), (17, .d (.int .i64 v15))]) (objs := [.box [.d (.cx .f32 f_.Source.A.re f_.Source.A.im), .d (.cx .f32 f_.Source.B.re f_.Source.B.im), .d (.cx .f32 f_.Source.C.re f_.Source.C.im), .d (.sl false (f_.Buses.map eSBus))], .box [.d (.int .i64 x24.Parent), .d (.cx .f32 x24.Own.re x24.Own.im), .d (.cx .f32 x24.Shared.re x24.Shared.im), .d (.int .i64 x24.Kind), .d (.cx .f32 x24.Load.A.re x24.Load.A.im), .d (.cx .f32 x24.Load.B.re x24.Load.B.im), .d (.cx .f32 x24.Load.C.re x24.Load.C.im), .d (.int .i64 x24.Customers)]]) rfl (by simp) rfl (by repeat' first | exact trivial | refine ⟨?_, ?_⟩) ⟨rfl, trivial, rfl, trivial, rfl, trivial, rfl, trivial, rfl, trivial, rfl, trivial, rfl, trivial, rfl, trivial, rfl, trivial, trivial⟩) ?_
    refine aw_region ?_
    refine awl_val hτ rfl rfl rfl ?_
    refine awl_val hτ rfl rfl rfl ?_
    refine awl_val hτ rfl rfl rfl ?_
    refine awl_val hτ rfl rfl rfl ?_
    refine awl_val hτ rfl rfl rfl ?_
    refine awl_val hτ rfl rfl rfl ?_
    refine awl_val hτ rfl rfl rfl ?_
    refine awl_nil ?_
    refine aw_weak (weak_ofP [0] (l := [(0, .ptr 0 0), (1, .d (.sl false (list_.map eSOutage))), (6, .d (.int .i64 (w64 (v13 + (w64 (x24.Customers * x25.1)))))), (7, .d (.int .i64 (w64 (v14 + (w64 (x24.Customers * x25.2)))))), (15, .d (.sl false (f_.Buses.map eSBus))), (16, .d (.int .i64 (f_.Buses.length : Int))), (17, .d (.int .i64 v15))]) (objs := [.box [.d (.cx .f32 f_.Source.A.re f_.Source.A.im), .d (.cx .f32 f_.Source.B.re f_.Source.B.im), .d (.cx .f32 f_.Source.C.re f_.Source.C.im), .d (.sl false (f_.Buses.map eSBus))]]) rfl (by simp) rfl (by repeat' first | exact trivial | refine ⟨?_, ?_⟩) ⟨rfl, trivial, rfl, trivial, rfl, trivial, rfl, trivial, rfl, trivial, rfl, trivial, rfl, trivial, trivial⟩) ?_
    refine aw_region ?_
    refine awl_val hτ rfl rfl rfl ?_
    refine awl_val hτ rfl rfl rfl ?_
    refine awl_nil ?_
    exact ⟨(m21, (w64 (v13 + (w64 (x24.Customers * x25.1)))), (w64 (v14 + (w64 (x24.Customers * x25.2)))), (w64 (v15 + (1 : Int)))), h, Nat.lt_succ_self m21, (weak_ofP [0] (l := [(0, .ptr 0 0), (1, .d (.sl false (list_.map eSOutage))), (6, .d (.int .i64 (w64 (v13 + (w64 (x24.Customers * x25.1)))))), (7, .d (.int .i64 (w64 (v14 + (w64 (x24.Customers * x25.2)))))), (15, .d (.sl false (f_.Buses.map eSBus))), (16, .d (.int .i64 (f_.Buses.length : Int))), (17, .d (.int .i64 (w64 (v15 + (1 : Int)))))]) (objs := [.box [.d (.cx .f32 f_.Source.A.re f_.Source.A.im), .d (.cx .f32 f_.Source.B.re f_.Source.B.im), .d (.cx .f32 f_.Source.C.re f_.Source.C.im), .d (.sl false (f_.Buses.map eSBus))]]) rfl (by simp) rfl (by repeat' first | exact trivial | refine ⟨?_, ?_⟩) ⟨rfl, trivial, rfl, trivial, rfl, trivial, rfl, trivial, rfl, trivial, rfl, trivial, rfl, trivial, trivial⟩)⟩
  · have h := if_f h hc23
    refine aw_exit ?_
    refine aw_seq ?_
    refine aw_region ?_
    refine awl_val hτ rfl rfl rfl ?_
    refine awl_val hτ rfl rfl rfl ?_
    refine awl_val hτ rfl rfl rfl ?_
    refine awl_val hτ rfl rfl rfl ?_
    refine awl_nil ?_
    refine aw_weak (weak_ofP [0] (l := [(4, .d (.int .i64 v13)), (5, .d (.int .i64 v14))]) (objs := [.box [.d (.cx .f32 f_.Source.A.re f_.Source.A.im), .d (.cx .f32 f_.Source.B.re f_.Source.B.im), .d (.cx .f32 f_.Source.C.re f_.Source.C.im), .d (.sl false (f_.Buses.map eSBus))]]) rfl (by simp) rfl (by repeat' first | exact trivial | refine ⟨?_, ?_⟩) ⟨rfl, trivial, rfl, trivial, trivial⟩) ?_
    refine aw_ret ?_
    have hr := Option.some.inj h
    subst hr
    exact ret_objs (.inr rfl) [] (objs' := [.box [.d (.cx .f32 f_.Source.A.re f_.Source.A.im), .d (.cx .f32 f_.Source.B.re f_.Source.B.im), .d (.cx .f32 f_.Source.C.re f_.Source.C.im), .d (.sl false (f_.Buses.map eSBus))]]) (new := []) rfl (by simp) (by simp) rfl (by repeat' first | exact trivial | refine ⟨?_, ?_⟩) rfl rfl (by repeat' first | exact trivial | refine ⟨?_, ?_⟩) (fun h => nomatch h) ⟨rfl, rfl, rfl⟩

def m_impl_CustomerTicks (n : Nat) (f_ : SFeeder) (list_ : List SOutage) : Option (Int × Bool) :=
  (m_impl_AreOutages n f_ list_).bind fun x4 =>
  if x4 = true then
    (m_impl_Feeder_customerSums n f_ list_).bind fun x6 =>
    some (x6.1, true)
  else
    some ((0 : Int), false)
theorem impl_CustomerTicks_ok_fr0 (fr : Bool) (n : Nat) (f_ : SFeeder) (list_ : List SOutage) {r : Int × Bool} (h : m_impl_CustomerTicks n f_ list_ = some r) : ACall prog fr 77 [.agg [.d (.cx .f32 f_.Source.A.re f_.Source.A.im), .d (.cx .f32 f_.Source.B.re f_.Source.B.im), .d (.cx .f32 f_.Source.C.re f_.Source.C.im), .d (.sl false (f_.Buses.map eSBus))], .d (.sl false (list_.map eSOutage))] [] (fun v o new => v = .tup [.d (.int .i64 r.1), .d (.bool r.2)] ∧ o = [] ∧ new = []) := by
  refine acall_of_aw hτ func77 rfl (by simp) (by simp) ?_
  unfold m_impl_CustomerTicks at h
  refine aw_seq ?_
  refine aw_region ?_
  refine awl_valH hτ rfl rfl rfl ?_
  refine awl_val hτ rfl rfl rfl ?_
  refine awl_val hτ rfl rfl rfl ?_
  refine awl_nil ?_
  refine aw_seq ?_
  refine aw_seq ?_
  refine aw_region ?_
  refine awl_val hτ rfl rfl rfl ?_
  refine awl_val hτ rfl rfl rfl ?_
  refine bnd_elim h fun x4 hx4 h => ?_
  refine awl_callP hτ false [] rfl rfl rfl (enterOk func81 rfl rfl) rfl rfl (by simp) ⟨(by repeat' first | exact trivial | refine ⟨?_, ?_⟩), trivial, trivial⟩ (by repeat' first | exact trivial | refine ⟨?_, ?_⟩) (impl_AreOutages_ok n f_ list_ hx4) ?_
  rintro r0 o0 n0 ⟨rfl, rfl, rfl⟩ -
  refine awl_val hτ rfl rfl rfl ?_
  refine awl_nil ?_
  refine aw_weak (weak_ofP [0] (l := [(1, .d (.sl false (list_.map eSOutage))), (2, .ptr 0 0), (11, .d (.bool (!x4)))]) (objs := [.box [.d (.cx .f32 f_.Source.A.re f_.Source.A.im), .d (.cx .f32 f_.Source.B.re f_.Source.B.im), .d (.cx .f32 f_.Source.C.re f_.Source.C.im), .d (.sl false (f_.Buses.map eSBus))]]) rfl (by simp) rfl (by repeat' first | exact trivial | refine ⟨?_, ?_⟩) ⟨rfl, trivial, rfl, trivial, rfl, trivial, trivial⟩) ?_
  refine aw_cond rfl (fun hc5 => ?_) (fun hc5 => ?_)
  · have hc5 := not_t hc5
    have h := if_bf h hc5
    refine aw_seq ?_
    refine aw_region ?_
    refine awl_val hτ rfl rfl rfl ?_
    refine awl_val hτ rfl rfl rfl ?_
    refine awl_nil ?_
    refine aw_weak (weak_ofP [] (l := [(4, .d (.int .i64 (0 : Int))), (5, .d (.bool false))]) (objs := []) rfl (by simp) rfl (by repeat' first | exact trivial | refine ⟨?_, ?_⟩) ⟨rfl, trivial, rfl, trivial, trivial⟩) ?_
    refine aw_ret ?_
    have hr := Option.some.inj h
    subst hr
    exact ret_objs (.inr rfl) [] (objs' := []) (new := []) rfl (by simp) (by simp) rfl (by repeat' first | exact trivial | refine ⟨?_, ?_⟩) rfl rfl (by repeat' first | exact trivial | refine ⟨?_, ?_⟩) (fun _ => ⟨by simp [V.flat, V.flatA, V.flatC, D.flat], flat_nil⟩) ⟨rfl, rfl, rfl⟩
  · have hc5 := not_f hc5
    have h := if_bt h hc5
    refine aw_skip ?_
    refine aw_seq ?_
    refine aw_region ?_
    refine awl_val hτ rfl rfl rfl ?_
    refine bnd_elim h fun x6 hx6 h => ?_
    refine awl_callP hτ false [0] rfl rfl rfl (enterOk func178 rfl rfl) rfl rfl (by simp) ⟨trivial, trivial, trivial⟩ (by repeat' first | exact trivial | refine ⟨?_, ?_⟩) (impl_Feeder_customerSums_ok n f_ list_ hx6) ?_
    rintro r0 o0 n0 ⟨rfl, rfl, rfl⟩ -
    refine awl_val hτ rfl rfl rfl ?_
    refine awl_val hτ rfl rfl rfl ?_
    refine awl_val hτ rfl rfl rfl ?_
    refine awl_val hτ rfl rfl rfl ?_
    refine awl_val hτ rfl rfl rfl ?_
    refine awl_nil ?_
    refine aw_seq ?_
    refine aw_weak (weak_ofP [] (l := [(6, .d (.int .i64 x6.1))]) (objs := []) rfl (by simp) rfl (by repeat' first | exact trivial | refine ⟨?_, ?_⟩) ⟨rfl, trivial, trivial⟩) ?_
    refine aw_region ?_
    refine awl_val hτ rfl rfl rfl ?_
    refine awl_val hτ rfl rfl rfl ?_
    refine awl_val hτ rfl rfl rfl ?_
    refine awl_nil ?_
    refine aw_weak (weak_ofP [] (l := [(4, .d (.int .i64 x6.1)), (5, .d (.bool true))]) (objs := []) rfl (by simp) rfl (by repeat' first | exact trivial | refine ⟨?_, ?_⟩) ⟨rfl, trivial, rfl, trivial, trivial⟩) ?_
    refine aw_ret ?_
    have hr := Option.some.inj h
    subst hr
    exact ret_objs (.inr rfl) [] (objs' := []) (new := []) rfl (by simp) (by simp) rfl (by repeat' first | exact trivial | refine ⟨?_, ?_⟩) rfl rfl (by repeat' first | exact trivial | refine ⟨?_, ?_⟩) (fun _ => ⟨by simp [V.flat, V.flatA, V.flatC, D.flat], flat_nil⟩) ⟨rfl, rfl, rfl⟩
theorem impl_CustomerTicks_ok (n : Nat) (f_ : SFeeder) (list_ : List SOutage) {r : Int × Bool} (h : m_impl_CustomerTicks n f_ list_ = some r) : ACall prog false 77 [.agg [.d (.cx .f32 f_.Source.A.re f_.Source.A.im), .d (.cx .f32 f_.Source.B.re f_.Source.B.im), .d (.cx .f32 f_.Source.C.re f_.Source.C.im), .d (.sl false (f_.Buses.map eSBus))], .d (.sl false (list_.map eSOutage))] [] (fun v o new => v = .tup [.d (.int .i64 r.1), .d (.bool r.2)] ∧ o = [] ∧ new = []) := impl_CustomerTicks_ok_fr0 false n f_ list_ h
theorem impl_CustomerTicks_ok_fr (n : Nat) (f_ : SFeeder) (list_ : List SOutage) {r : Int × Bool} (h : m_impl_CustomerTicks n f_ list_ = some r) : ACall prog true 77 [.agg [.d (.cx .f32 f_.Source.A.re f_.Source.A.im), .d (.cx .f32 f_.Source.B.re f_.Source.B.im), .d (.cx .f32 f_.Source.C.re f_.Source.C.im), .d (.sl false (f_.Buses.map eSBus))], .d (.sl false (list_.map eSOutage))] [] (fun v o new => v = .tup [.d (.int .i64 r.1), .d (.bool r.2)] ∧ o = [] ∧ new = []) := impl_CustomerTicks_ok_fr0 true n f_ list_ h

def m_impl_CustomerTimes (n : Nat) (f_ : SFeeder) (list_ : List SOutage) : Option (Int × Bool) :=
  (m_impl_AreOutages n f_ list_).bind fun x4 =>
  if x4 = true then
    (m_impl_Feeder_customerSums n f_ list_).bind fun x6 =>
    some (x6.2, true)
  else
    some ((0 : Int), false)
theorem impl_CustomerTimes_ok_fr0 (fr : Bool) (n : Nat) (f_ : SFeeder) (list_ : List SOutage) {r : Int × Bool} (h : m_impl_CustomerTimes n f_ list_ = some r) : ACall prog fr 78 [.agg [.d (.cx .f32 f_.Source.A.re f_.Source.A.im), .d (.cx .f32 f_.Source.B.re f_.Source.B.im), .d (.cx .f32 f_.Source.C.re f_.Source.C.im), .d (.sl false (f_.Buses.map eSBus))], .d (.sl false (list_.map eSOutage))] [] (fun v o new => v = .tup [.d (.int .i64 r.1), .d (.bool r.2)] ∧ o = [] ∧ new = []) := by
  refine acall_of_aw hτ func78 rfl (by simp) (by simp) ?_
  unfold m_impl_CustomerTimes at h
  refine aw_seq ?_
  refine aw_region ?_
  refine awl_valH hτ rfl rfl rfl ?_
  refine awl_val hτ rfl rfl rfl ?_
  refine awl_val hτ rfl rfl rfl ?_
  refine awl_nil ?_
  refine aw_seq ?_
  refine aw_seq ?_
  refine aw_region ?_
  refine awl_val hτ rfl rfl rfl ?_
  refine awl_val hτ rfl rfl rfl ?_
  refine bnd_elim h fun x4 hx4 h => ?_
  refine awl_callP hτ false [] rfl rfl rfl (enterOk func81 rfl rfl) rfl rfl (by simp) ⟨(by repeat' first | exact trivial | refine ⟨?_, ?_⟩), trivial, trivial⟩ (by repeat' first | exact trivial | refine ⟨?_, ?_⟩) (impl_AreOutages_ok n f_ list_ hx4) ?_
  rintro r0 o0 n0 ⟨rfl, rfl, rfl⟩ -
  refine awl_val hτ rfl rfl rfl ?_
  refine awl_nil ?_
  refine aw_weak (weak_ofP [0] (l := [(1, .d (.sl false (list_.map eSOutage))), (2, .ptr 0 0), (11, .d (.bool (!x4)))]) (objs := [.box [.d (.cx .f32 f_.Source.A.re f_.Source.A.im), .d (.cx .f32 f_.Source.B.re f_.Source.B.im), .d (.cx .f32 f_.Source.C.re f_.Source.C.im), .d (.sl false (f_.Buses.map eSBus))]]) rfl (by simp) rfl (by repeat' first | exact trivial | refine ⟨?_, ?_⟩) ⟨rfl, trivial, rfl, trivial, rfl, trivial, trivial⟩) ?_
  refine aw_cond rfl (fun hc5 => ?_) (fun hc5 => ?_)
  · have hc5 := not_t hc5
    have h := if_bf h hc5
    refine aw_seq ?_
    refine aw_region ?_
    refine awl_val hτ rfl rfl rfl ?_
    refine awl_val hτ rfl rfl rfl ?_
    refine awl_nil ?_
    refine aw_weak (weak_ofP [] (l := [(4, .d (.int .i64 (0 : Int))), (5, .d (.bool false))]) (objs := []) rfl (by simp) rfl (by repeat' first | exact trivial | refine ⟨?_, ?_⟩) ⟨rfl, trivial, rfl, trivial, trivial⟩) ?_
    refine aw_ret ?_
    have hr := Option.some.inj h
    subst hr
    exact ret_objs (.inr rfl) [] (objs' := []) (new := []) rfl (by simp) (by simp) rfl (by repeat' first | exact trivial | refine ⟨?_, ?_⟩) rfl rfl (by repeat' first | exact trivial | refine ⟨?_, ?_⟩) (fun _ => ⟨by simp [V.flat, V.flatA, V.flatC, D.flat], flat_nil⟩) ⟨rfl, rfl, rfl⟩
  · have hc5 := not_f hc5
    have h := if_bt h hc5
    refine aw_skip ?_
    refine aw_seq ?_
    refine aw_region ?_
    refine awl_val hτ rfl rfl rfl ?_
    refine bnd_elim h fun x6 hx6 h => ?_
    refine awl_callP hτ false [0] rfl rfl rfl (enterOk func178 rfl rfl) rfl rfl (by simp) ⟨trivial, trivial, trivial⟩ (by repeat' first | exact trivial | refine ⟨?_, ?_⟩) (impl_Feeder_customerSums_ok n f_ list_ hx6) ?_
    rintro r0 o0 n0 ⟨rfl, rfl, rfl⟩ -
    refine awl_val hτ rfl rfl rfl ?_
    refine awl_val hτ rfl rfl rfl ?_
    refine awl_val hτ rfl rfl rfl ?_
    refine awl_val hτ rfl rfl rfl ?_
    refine awl_val hτ rfl rfl rfl ?_
    refine awl_nil ?_
    refine aw_seq ?_
    refine aw_weak (weak_ofP [] (l := [(7, .d (.int .i64 x6.2))]) (objs := []) rfl (by simp) rfl (by repeat' first | exact trivial | refine ⟨?_, ?_⟩) ⟨rfl, trivial, trivial⟩) ?_
    refine aw_region ?_
    refine awl_val hτ rfl rfl rfl ?_
    refine awl_val hτ rfl rfl rfl ?_
    refine awl_val hτ rfl rfl rfl ?_
    refine awl_nil ?_
    refine aw_weak (weak_ofP [] (l := [(4, .d (.int .i64 x6.2)), (5, .d (.bool true))]) (objs := []) rfl (by simp) rfl (by repeat' first | exact trivial | refine ⟨?_, ?_⟩) ⟨rfl, trivial, rfl, trivial, trivial⟩) ?_
    refine aw_ret ?_
    have hr := Option.some.inj h
    subst hr
    exact ret_objs (.inr rfl) [] (objs' := []) (new := []) rfl (by simp) (by simp) rfl (by repeat' first | exact trivial | refine ⟨?_, ?_⟩) rfl rfl (by repeat' first | exact trivial | refine ⟨?_, ?_⟩) (fun _ => ⟨by simp [V.flat, V.flatA, V.flatC, D.flat], flat_nil⟩) ⟨rfl, rfl, rfl⟩
theorem impl_CustomerTimes_ok (n : Nat) (f_ : SFeeder) (list_ : List SOutage) {r : Int × Bool} (h : m_impl_CustomerTimes n f_ list_ = some r) : ACall prog false 78 [.agg [.d (.cx .f32 f_.Source.A.re f_.Source.A.im), .d (.cx .f32 f_.Source.B.re f_.Source.B.im), .d (.cx .f32 f_.Source.C.re f_.Source.C.im), .d (.sl false (f_.Buses.map eSBus))], .d (.sl false (list_.map eSOutage))] [] (fun v o new => v = .tup [.d (.int .i64 r.1), .d (.bool r.2)] ∧ o = [] ∧ new = []) := impl_CustomerTimes_ok_fr0 false n f_ list_ h
theorem impl_CustomerTimes_ok_fr (n : Nat) (f_ : SFeeder) (list_ : List SOutage) {r : Int × Bool} (h : m_impl_CustomerTimes n f_ list_ = some r) : ACall prog true 78 [.agg [.d (.cx .f32 f_.Source.A.re f_.Source.A.im), .d (.cx .f32 f_.Source.B.re f_.Source.B.im), .d (.cx .f32 f_.Source.C.re f_.Source.C.im), .d (.sl false (f_.Buses.map eSBus))], .d (.sl false (list_.map eSOutage))] [] (fun v o new => v = .tup [.d (.int .i64 r.1), .d (.bool r.2)] ∧ o = [] ∧ new = []) := impl_CustomerTimes_ok_fr0 true n f_ list_ h

def m_impl_Feeder_below_j2 (n : Nat) (k26 : List Int → Int → Option (List Int)) (v18 : Int) (v32 : List Int) : Option (List Int) :=
  k26 v32 (w64 (v18 + (1 : Int)))
def m_impl_Feeder_below_l1 (n : Nat) (f_ : SFeeder) : Nat → List Int → Int → Option (List Int)
  | 0, _, _ => none
  | m25 + 1, v17, v18 =>
    if v18 < (f_.Buses.length : Int) then
      (getI f_.Buses v18).bind fun x34 =>
      (m_slices_Contains n v17 x34.Parent).bind fun x35 =>
      if x35 = true then
        grd (room (v17.length + 1) 8) <|
        m_impl_Feeder_below_j2 n (m_impl_Feeder_below_l1 n f_ m25) v18 (v17 ++ [v18])
      else
        m_impl_Feeder_below_j2 n (m_impl_Feeder_below_l1 n f_ m25) v18 v17
    else
      some v17
def m_impl_Feeder_below (n : Nat) (f_ : SFeeder) (bus_ : Int) : Option (List Int) :=
  m_impl_Feeder_below_l1 n f_ n [bus_] (w64 (bus_ + (1 : Int)))
theorem impl_Feeder_below_ok (n : Nat) (f_ : SFeeder) (bus_ : Int) {r : List Int} (h : m_impl_Feeder_below n f_ bus_ = some r) : ACall prog false 180 [.ptr 0 0, .d (.int .i64 bus_)] [.box [.d (.cx .f32 f_.Source.A.re f_.Source.A.im), .d (.cx .f32 f_.Source.B.re f_.Source.B.im), .d (.cx .f32 f_.Source.C.re f_.Source.C.im), .d (.sl false (f_.Buses.map eSBus))]] (fun v o new => v = .row 1 r.length 0 r.length ∧ o = [.box [.d (.cx .f32 f_.Source.A.re f_.Source.A.im), .d (.cx .f32 f_.Source.B.re f_.Source.B.im), .d (.cx .f32 f_.Source.C.re f_.Source.C.im), .d (.sl false (f_.Buses.map eSBus))]] ∧ new = [.row 1 (r.map eInti64)]) := by
  refine acall_of_aw hτ func180 rfl (by simp) (by simp) ?_
  unfold m_impl_Feeder_below at h
  refine aw_seq ?_
  refine aw_region ?_
  refine awl_val hτ rfl rfl rfl ?_
  refine awl_nil ?_
  refine aw_seq ?_
  refine aw_region ?_
  refine awl_val hτ rfl rfl rfl ?_
  refine awl_valH hτ rfl rfl rfl ?_
  refine awl_val hτ rfl rfl rfl ?_
  refine awl_nil ?_
  refine aw_seq ?_
  refine aw_seq ?_
  refine aw_region ?_
  refine awl_val hτ rfl rfl rfl ?_
  refine awl_val hτ rfl rfl rfl ?_
  refine awl_val hτ rfl rfl rfl ?_
  refine awl_nil ?_
  refine aw_block ?_
  refine aw_loop (ι := Nat × List Int × Int) (fun (m25, v17, v18) => St.of [(0, .ptr 0 0), (5, .row 1 v17.length 0 v17.length), (6, .d (.int .i64 v18))] [.box [.d (.cx .f32 f_.Source.A.re f_.Source.A.im), .d (.cx .f32 f_.Source.B.re f_.Source.B.im), .d (.cx .f32 f_.Source.C.re f_.Source.C.im), .d (.sl false (f_.Buses.map eSBus))], .row 1 (v17.map eInti64)] f180.ntmps 1) (fun (m25, v17, v18) => m_impl_Feeder_below_l1 n f_ m25 v17 v18 = some r) (fun x => x.1) (n, [bus_], (w64 (bus_ + (1 : Int)))) h (weak_ofP [0, 1] (l := [(0, .ptr 0 0), (5, .row 1 ([bus_].length) 0 ([bus_].length)), (6, .d (.int .i64 (w64 (bus_ + (1 : Int)))))]) (objs := [.box [.d (.cx .f32 f_.Source.A.re f_.Source.A.im), .d (.cx .f32 f_.Source.B.re f_.Source.B.im), .d (.cx .f32 f_.Source.C.re f_.Source.C.im), .d (.sl false (f_.Buses.map eSBus))], .row 1 ([bus_].map eInti64)]) rfl (by simp) rfl (by repeat' first | exact trivial | refine ⟨?_, ?_⟩) ⟨rfl, trivial, rfl, trivial, rfl, trivial, trivial⟩) ?_
  rintro ⟨m25, v17, v18⟩ h
  replace h : m_impl_Feeder_below_l1 n f_ m25 v17 v18 = some r := h
  rcases m25 with _ | m25
  · rw [m_impl_Feeder_below_l1] at h; cases h
  rw [m_impl_Feeder_below_l1] at h
  refine aw_seq ?_
  refine aw_seq ?_
  refine aw_region ?_
  refine awl_val hτ rfl rfl rfl ?_
  refine awl_val hτ rfl rfl rfl ?_
  refine awl_val hτ rfl rfl rfl ?_
  refine awl_val hτ rfl rfl rfl ?_
  refine awl_val hτ rfl rfl rfl ?_
  refine awl_val hτ (v := .d (.int .i64 (f_.Buses.length : Int))) rfl rfl (Eq.trans rfl (or_len (f := eSBus) f_.Buses)) ?_
  refine awl_val hτ rfl rfl rfl ?_
  refine awl_nil ?_
  refine aw_weak (weak_ofP [0, 1] (l := [(0, .ptr 0 0), (5, .row 1 v17.length 0 v17.length), (6, .d (.int .i64 v18)), (17, .d (.bool (decide (v18 < (f_.Buses.length : Int)))))]) (objs := [.box [.d (.cx .f32 f_.Source.A.re f_.Source.A.im), .d (.cx .f32 f_.Source.B.re f_.Source.B.im), .d (.cx .f32 f_.Source.C.re f_.Source.C.im), .d (.sl false (f_.Buses.map eSBus))], .row 1 (v17.map eInti64)]) rfl (by simp) rfl (by repeat' first | exact trivial | refine ⟨?_, ?_⟩) ⟨rfl, trivial, rfl, trivial, rfl, trivial, rfl, trivial, trivial⟩) ?_
  refine aw_cond rfl (fun hc27 => ?_) (fun hc27 => ?_)
  · have h := if_t h hc27
    refine aw_skip ?_
    refine aw_hk1 (ι := List Int) (fun v32 => St.of [(0, .ptr 0 0), (5, .row 1 v32.length 0 v32.length), (6, .d (.int .i64 v18))] [.box [.d (.cx .f32 f_.Source.A.re f_.Source.A.im), .d (.cx .f32 f_.Source.B.re f_.Source.B.im), .d (.cx .f32 f_.Source.C.re f_.Source.C.im), .d (.sl false (f_.Buses.map eSBus))], .row 1 (v32.map eInti64)] f180.ntmps 1) (fun v32 => m_impl_Feeder_below_j2 n (m_impl_Feeder_below_l1 n f_ m25) v18 v32 = some r) ?_ (fun hk33 => ?_)
    · rintro v32 h
      replace h : m_impl_Feeder_below_j2 n (m_impl_Feeder_below_l1 n f_ m25) v18 v32 = some r := h
      unfold m_impl_Feeder_below_j2 at h
      refine aw_region ?_
      refine awl_val hτ rfl rfl rfl ?_
      refine awl_val hτ rfl rfl rfl ?_
      refine awl_val hτ rfl rfl rfl ?_
      refine awl_nil ?_
      exact ⟨(m25, v32, (w64 (v18 + (1 : Int)))), h, Nat.lt_succ_self m25, (weak_ofP [0, 1] (l := [(0, .ptr 0 0), (5, .row 1 v32.length 0 v32.length), (6, .d (.int .i64 (w64 (v18 + (1 : Int)))))]) (objs := [.box [.d (.cx .f32 f_.Source.A.re f_.Source.A.im), .d (.cx .f32 f_.Source.B.re f_.Source.B.im), .d (.cx .f32 f_.Source.C.re f_.Source.C.im), .d (.sl false (f_.Buses.map eSBus))], .row 1 (v32.map eInti64)]) rfl (by simp) rfl (by repeat' first | exact trivial | refine ⟨?_, ?_⟩) ⟨rfl, trivial, rfl, trivial, rfl, trivial, trivial⟩)⟩
    · refine aw_seq ?_
      refine aw_block ?_
      refine aw_seq ?_
      refine aw_region ?_
      refine awl_val hτ rfl rfl rfl ?_
      refine awl_val hτ rfl rfl rfl ?_
      refine awl_val hτ rfl rfl rfl ?_
      refine awl_val hτ rfl rfl rfl ?_
      refine awl_val hτ rfl rfl rfl ?_
      refine awl_val hτ rfl rfl rfl ?_
      refine bnd_elim h fun x34 hx34 h => ?_
      refine awl_elem hτ rfl rfl rfl (getI_some hx34).1 (map_getI hx34) rfl ?_
      refine awl_val hτ rfl rfl rfl ?_
      refine awl_val hτ rfl rfl rfl ?_
      refine awl_weak (weak_ofP [0, 1] (l := [(0, .ptr 0 0), (5, .row 1 v17.length 0 v17.length), (6, .d (.int .i64 v18)), (20, .row 1 v17.length 0 v17.length), (28, .d (.int .i64 x34.Parent))]) (objs := [.box [.d (.cx .f32 f_.Source.A.re f_.Source.A.im), .d (.cx .f32 f_.Source.B.re f_.Source.B.im), .d (.cx .f32 f_.Source.C.re f_.Source.C.im), .d (.sl false (f_.Buses.map eSBus))], .row 1 (v17.map eInti64)]) rfl (by simp) rfl (by repeat' first | exact trivial | refine ⟨?_, ?_⟩) ⟨rfl, trivial, rfl, trivial, rfl, trivial, rfl, trivial, rfl, trivial, trivial⟩) ?_
      refine bnd_elim h fun x35 hx35 h => ?_
      refine awl_callP hτ true [] rfl rfl rfl (enterOk func150 rfl rfl) (mapO_cons (exV_view (f := eInti64) v17 rfl rfl rfl) (mapO_cons rfl mapO_nil)) rfl (by simp) ⟨(exVP_view (f := eInti64) v17 rfl rfl rfl), trivial, trivial⟩ (by repeat' first | exact trivial | refine ⟨?_, ?_⟩) (slices_Contains_ok_fr n v17 x34.Parent hx35) ?_
      rintro r0 o0 n0 ⟨rfl, rfl, rfl⟩ -
      refine awl_nil ?_
      refine aw_cond rfl (fun hc36 => ?_) (fun hc36 => ?_)
      · have h := if_bt h hc36
        refine aw_region ?_
        refine awl_val hτ rfl rfl rfl ?_
        refine awl_val hτ rfl rfl rfl ?_
        refine awl_valH hτ rfl rfl rfl ?_
        refine grd_elim h fun hg37 h => ?_
        refine awl_needH hτ rfl rfl (Eq.trans rfl (or_append (f := eInti64) v17 [v18] rfl)) ⟨⟨rfl, Nat.le_of_ble_eq_true rfl⟩, len_map _, rfl, rfl, hg37, by decide, (all1 rfl)⟩ ?_
        refine awl_val hτ rfl rfl rfl ?_
        refine awl_nil ?_
        refine aw_weak (weak_ofP [0, 1] (l := [(0, .ptr 0 0), (5, .row 1 ((v17 ++ [v18]).length) 0 ((v17 ++ [v18]).length)), (6, .d (.int .i64 v18))]) (objs := [.box [.d (.cx .f32 f_.Source.A.re f_.Source.A.im), .d (.cx .f32 f_.Source.B.re f_.Source.B.im), .d (.cx .f32 f_.Source.C.re f_.Source.C.im), .d (.sl false (f_.Buses.map eSBus))], .row 1 ((v17 ++ [v18]).map eInti64)]) rfl (by simp) rfl (by repeat' first | exact trivial | refine ⟨?_, ?_⟩) ⟨rfl, trivial, rfl, trivial, rfl, trivial, trivial⟩) ?_
        exact hk33 (v17 ++ [v18]) h
      · have h := if_bf h hc36
        refine aw_skip ?_
        refine aw_weak (weak_ofP [0, 1] (l := [(0, .ptr 0 0), (5, .row 1 v17.length 0 v17.length), (6, .d (.int .i64 v18))]) (objs := [.box [.d (.cx .f32 f_.Source.A.re f_.Source.A.im), .d (.cx .f32 f_.Source.B.re f_.Source.B.im), .d (.cx .f32 f_.Source.C.re f_.Source.C.im), .d (.sl false (f_.Buses.map eSBus))], .row 1 (v17.map eInti64)]) rfl (by simp) rfl (by repeat' first | exact trivial | refine ⟨?_, ?_⟩) ⟨rfl, trivial, rfl, trivial, rfl, trivial, trivial⟩) ?_
        exact hk33 v17 h
  · have h := if_f h hc27
    refine aw_exit ?_
    refine aw_seq ?_
    refine aw_region ?_
    refine awl_val hτ rfl rfl rfl ?_
    refine awl_val hτ rfl rfl rfl ?_
    refine awl_nil ?_
    refine aw_weak (weak_ofP [0, 1] (l := [(4, .row 1 v17.length 0 v17.length)]) (objs := [.box [.d (.cx .f32 f_.Source.A.re f_.Source.A.im), .d (.cx .f32 f_.Source.B.re f_.Source.B.im), .d (.cx .f32 f_.Source.C.re f_.Source.C.im), .d (.sl false (f_.Buses.map eSBus))], .row 1 (v17.map eInti64)]) rfl (by simp) rfl (by repeat' first | exact trivial | refine ⟨?_, ?_⟩) ⟨rfl, trivial, trivial⟩) ?_
    refine aw_ret ?_
    have hr := Option.some.inj h
    subst hr
    exact ret_objs (.inr rfl) [1] (objs' := [.box [.d (.cx .f32 f_.Source.A.re f_.Source.A.im), .d (.cx .f32 f_.Source.B.re f_.Source.B.im), .d (.cx .f32 f_.Source.C.re f_.Source.C.im), .d (.sl false (f_.Buses.map eSBus))]]) (new := [.row 1 (v17.map eInti64)]) rfl (by simp) (by simp) rfl (by repeat' first | exact trivial | refine ⟨?_, ?_⟩) rfl rfl (by repeat' first | exact trivial | refine ⟨?_, ?_⟩) (fun h => nomatch h) ⟨rfl, rfl, rfl⟩

def m_impl_Feeder_customers_l1 (n : Nat) (f_ : SFeeder) (buses_ : List Int) : Nat → Int → Int → Option Int
  | 0, _, _ => none
  | m17 + 1, v11, v12 =>
    if v12 < (buses_.length : Int) then
      (getI buses_ v12).bind fun x20 =>
      (getI f_.Buses x20).bind fun x21 =>
      (m_impl_Feeder_customers_l1 n f_ buses_ m17) (w64 (v11 + x21.Customers)) (w64 (v12 + (1 : Int)))
    else
      some v11
def m_impl_Feeder_customers (n : Nat) (f_ : SFeeder) (buses_ : List Int) : Option Int :=
  m_impl_Feeder_customers_l1 n f_ buses_ n (0 : Int) (0 : Int)
theorem impl_Feeder_customers_ok (n : Nat) (f_ : SFeeder) (buses_ : List Int) {r : Int} (h : m_impl_Feeder_customers n f_ buses_ = some r) : ACall prog false 179 [.ptr 0 0, .d (.sl false (buses_.map eInti64))] [.box [.d (.cx .f32 f_.Source.A.re f_.Source.A.im), .d (.cx .f32 f_.Source.B.re f_.Source.B.im), .d (.cx .f32 f_.Source.C.re f_.Source.C.im), .d (.sl false (f_.Buses.map eSBus))]] (fun v o new => v = .d (.int .i64 r) ∧ o = [.box [.d (.cx .f32 f_.Source.A.re f_.Source.A.im), .d (.cx .f32 f_.Source.B.re f_.Source.B.im), .d (.cx .f32 f_.Source.C.re f_.Source.C.im), .d (.sl false (f_.Buses.map eSBus))]] ∧ new = []) := by
  refine acall_of_aw hτ func179 rfl (by simp) (by simp) ?_
  unfold m_impl_Feeder_customers at h
  refine aw_seq ?_
  refine aw_region ?_
  refine awl_val hτ rfl rfl rfl ?_
  refine awl_nil ?_
  refine aw_seq ?_
  refine aw_region ?_
  refine awl_val hτ rfl rfl rfl ?_
  refine awl_nil ?_
  refine aw_seq ?_
  refine aw_seq ?_
  refine aw_region ?_
  refine awl_val hτ rfl rfl rfl ?_
  refine awl_val hτ (v := .d (.int .i64 (buses_.length : Int))) rfl rfl (Eq.trans rfl (or_len (f := eInti64) buses_)) ?_
  refine awl_val hτ rfl rfl rfl ?_
  refine awl_nil ?_
  refine aw_block ?_
  refine aw_loop (ι := Nat × Int × Int) (fun (m17, v11, v12) => St.of [(0, .ptr 0 0), (5, .d (.int .i64 v11)), (8, .d (.sl false (buses_.map eInti64))), (9, .d (.int .i64 (buses_.length : Int))), (10, .d (.int .i64 v12))] [.box [.d (.cx .f32 f_.Source.A.re f_.Source.A.im), .d (.cx .f32 f_.Source.B.re f_.Source.B.im), .d (.cx .f32 f_.Source.C.re f_.Source.C.im), .d (.sl false (f_.Buses.map eSBus))]] f179.ntmps 1) (fun (m17, v11, v12) => m_impl_Feeder_customers_l1 n f_ buses_ m17 v11 v12 = some r) (fun x => x.1) (n, (0 : Int), (0 : Int)) h (weak_ofP [0] (l := [(0, .ptr 0 0), (5, .d (.int .i64 (0 : Int))), (8, .d (.sl false (buses_.map eInti64))), (9, .d (.int .i64 (buses_.length : Int))), (10, .d (.int .i64 (0 : Int)))]) (objs := [.box [.d (.cx .f32 f_.Source.A.re f_.Source.A.im), .d (.cx .f32 f_.Source.B.re f_.Source.B.im), .d (.cx .f32 f_.Source.C.re f_.Source.C.im), .d (.sl false (f_.Buses.map eSBus))]]) rfl (by simp) rfl (by repeat' first | exact trivial | refine ⟨?_, ?_⟩) ⟨rfl, trivial, rfl, trivial, rfl, trivial, rfl, trivial, rfl, trivial, trivial⟩) ?_
  rintro ⟨m17, v11, v12⟩ h
  replace h : m_impl_Feeder_customers_l1 n f_ buses_ m17 v11 v12 = some r := h
  rcases m17 with _ | m17
  · rw [m_impl_Feeder_customers_l1] at h; cases h
  rw [m_impl_Feeder_customers_l1] at h
  refine aw_seq ?_
  refine aw_region ?_
  refine awl_val hτ rfl rfl rfl ?_
  refine awl_nil ?_
  refine aw_seq ?_
  refine aw_cond rfl (fun hc19 => ?_) (fun hc19 => ?_)
  · have h := if_t h hc19
    refine aw_skip ?_
    refine aw_seq ?_
    refine aw_block ?_
    refine aw_seq ?_
    refine aw_region ?_
    refine bnd_elim h fun x20 hx20 h => ?_
    refine awl_elem hτ rfl rfl rfl (getI_some hx20).1 (map_getI hx20) rfl ?_
    refine awl_val hτ rfl rfl rfl ?_
    refine awl_val hτ rfl rfl rfl ?_
    refine awl_nil ?_
    refine aw_region ?_
    refine awl_val hτ rfl rfl rfl ?_
    refine awl_val hτ rfl rfl rfl ?_
    refine awl_val hτ rfl rfl rfl ?_
    refine awl_val hτ rfl rfl rfl ?_
    refine awl_val hτ rfl rfl rfl ?_
    refine awl_val hτ rfl rfl rfl ?_
    refine bnd_elim h fun x21 hx21 h => ?_
    refine awl_elem hτ rfl rfl rfl (getI_some hx21).1 (map_getI hx21) rfl ?_
    refine awl_val hτ rfl rfl rfl ?_
    refine awl_weak (weak_ofP [0] (l := [(0, .ptr 0 0), (5, .d (.int .i64 v11)), (8, .d (.sl false (buses_.map eInti64))), (9, .d (.int .i64 (buses_.length : Int))), (10, .d (.int .i64 v12)), (14, .d (.int .i64 v11)), (21, .rop [.int .i64 x21.Parent, .cx .f32 x21.Own.re x21.Own.im, .cx .f32 x21.Shared.re x21.Shared.im, .int .i64 x21.Kind, .cx .f32 x21.Load.A.re x21.Load.A.im, .cx .f32 x21.Load.B.re x21.Load.B.im, .cx .f32 x21.Load.C.re x21.Load.C.im, .int .i64 x21.Customers] 7)]) (objs := [.box [.d (.cx .f32 f_.Source.A.re f_.Source.A.im), .d (.cx .f32 f_.Source.B.re f_.Source.B.im), .d (.cx .f32 f_.Source.C.re f_.Source.C.im), .d (.sl false (f_.Buses.map eSBus))]]) rfl (by simp) rfl (by repeat' first | exact trivial | refine ⟨?_, ?_⟩) ⟨rfl, trivial, rfl, trivial, rfl, trivial, rfl, trivial, rfl, trivial, rfl, trivial, rfl, trivial, trivial⟩) ?_
    refine awl_val hτ rfl rfl rfl ?_
    refine awl_val hτ rfl rfl rfl ?_
    refine awl_val hτ rfl rfl rfl ?_
    refine awl_nil ?_
    refine aw_region ?_
    refine awl_val hτ rfl rfl rfl ?_
    refine awl_val hτ rfl rfl rfl ?_
    refine awl_nil ?_
    exact ⟨(m17, (w64 (v11 + x21.Customers)), (w64 (v12 + (1 : Int)))), h, Nat.lt_succ_self m17, (weak_ofP [0] (l := [(0, .ptr 0 0), (5, .d (.int .i64 (w64 (v11 + x21.Customers)))), (8, .d (.sl false (buses_.map eInti64))), (9, .d (.int .i64 (buses_.length : Int))), (10, .d (.int .i64 (w64 (v12 + (1 : Int)))))]) (objs := [.box [.d (.cx .f32 f_.Source.A.re f_.Source.A.im), .d (.cx .f32 f_.Source.B.re f_.Source.B.im), .d (.cx .f32 f_.Source.C.re f_.Source.C.im), .d (.sl false (f_.Buses.map eSBus))]]) rfl (by simp) rfl (by repeat' first | exact trivial | refine ⟨?_, ?_⟩) ⟨rfl, trivial, rfl, trivial, rfl, trivial, rfl, trivial, rfl, trivial, trivial⟩)⟩
  · have h := if_f h hc19
    refine aw_exit ?_
    refine aw_seq ?_
    refine aw_region ?_
    refine awl_val hτ rfl rfl rfl ?_
    refine awl_val hτ rfl rfl rfl ?_
    refine awl_nil ?_
    refine aw_weak (weak_ofP [0] (l := [(4, .d (.int .i64 v11))]) (objs := [.box [.d (.cx .f32 f_.Source.A.re f_.Source.A.im), .d (.cx .f32 f_.Source.B.re f_.Source.B.im), .d (.cx .f32 f_.Source.C.re f_.Source.C.im), .d (.sl false (f_.Buses.map eSBus))]]) rfl (by simp) rfl (by repeat' first | exact trivial | refine ⟨?_, ?_⟩) ⟨rfl, trivial, trivial⟩) ?_
    refine aw_ret ?_
    have hr := Option.some.inj h
    subst hr
    exact ret_objs (.inr rfl) [] (objs' := [.box [.d (.cx .f32 f_.Source.A.re f_.Source.A.im), .d (.cx .f32 f_.Source.B.re f_.Source.B.im), .d (.cx .f32 f_.Source.C.re f_.Source.C.im), .d (.sl false (f_.Buses.map eSBus))]]) (new := []) rfl (by simp) (by simp) rfl (by repeat' first | exact trivial | refine ⟨?_, ?_⟩) rfl rfl (by repeat' first | exact trivial | refine ⟨?_, ?_⟩) (fun h => nomatch h) ⟨rfl, rfl, rfl⟩

def m_impl_AllCustomers (n : Nat) (f_ : SFeeder) : Option (Int × Bool) :=
  (m_impl_ValidFeeder n f_).bind fun x5 =>
  if x5 = true then
    (m_impl_Feeder_below n f_ (0 : Int)).bind fun x7 =>
    (m_impl_Feeder_customers n f_ x7).bind fun x8 =>
    some (x8, true)
  else
    some ((0 : Int), false)
theorem impl_AllCustomers_ok_fr0 (fr : Bool) (n : Nat) (f_ : SFeeder) {r : Int × Bool} (h : m_impl_AllCustomers n f_ = some r) : ACall prog fr 79 [.agg [.d (.cx .f32 f_.Source.A.re f_.Source.A.im), .d (.cx .f32 f_.Source.B.re f_.Source.B.im), .d (.cx .f32 f_.Source.C.re f_.Source.C.im), .d (.sl false (f_.Buses.map eSBus))]] [] (fun v o new => v = .tup [.d (.int .i64 r.1), .d (.bool r.2)] ∧ o = [] ∧ new = []) := by
  refine acall_of_aw hτ func79 rfl (by simp) (by simp) ?_
  unfold m_impl_AllCustomers at h
  refine aw_seq ?_
  refine aw_region ?_
  refine awl_valH hτ rfl rfl rfl ?_
  refine awl_val hτ rfl rfl rfl ?_
  refine awl_val hτ rfl rfl rfl ?_
  refine awl_nil ?_
  refine aw_seq ?_
  refine aw_seq ?_
  refine aw_region ?_
  refine awl_val hτ rfl rfl rfl ?_
  refine bnd_elim h fun x5 hx5 h => ?_
  refine awl_callP hτ false [] rfl rfl rfl (enterOk func111 rfl rfl) rfl rfl (by simp) ⟨(by repeat' first | exact trivial | refine ⟨?_, ?_⟩), trivial⟩ (by repeat' first | exact trivial | refine ⟨?_, ?_⟩) (impl_ValidFeeder_ok n f_ hx5) ?_
  rintro r0 o0 n0 ⟨rfl, rfl, rfl⟩ -
  refine awl_val hτ rfl rfl rfl ?_
  refine awl_nil ?_
  refine aw_weak (weak_ofP [0] (l := [(1, .ptr 0 0), (6, .d (.bool (!x5)))]) (objs := [.box [.d (.cx .f32 f_.Source.A.re f_.Source.A.im), .d (.cx .f32 f_.Source.B.re f_.Source.B.im), .d (.cx .f32 f_.Source.C.re f_.Source.C.im), .d (.sl false (f_.Buses.map eSBus))]]) rfl (by simp) rfl (by repeat' first | exact trivial | refine ⟨?_, ?_⟩) ⟨rfl, trivial, rfl, trivial, trivial⟩) ?_
  refine aw_cond rfl (fun hc6 => ?_) (fun hc6 => ?_)
  · have hc6 := not_t hc6
    have h := if_bf h hc6
    refine aw_seq ?_
    refine aw_region ?_
    refine awl_val hτ rfl rfl rfl ?_
    refine awl_val hτ rfl rfl rfl ?_
    refine awl_nil ?_
    refine aw_weak (weak_ofP [] (l := [(2, .d (.int .i64 (0 : Int))), (3, .d (.bool false))]) (objs := []) rfl (by simp) rfl (by repeat' first | exact trivial | refine ⟨?_, ?_⟩) ⟨rfl, trivial, rfl, trivial, trivial⟩) ?_
    refine aw_ret ?_
    have hr := Option.some.inj h
    subst hr
    exact ret_objs (.inr rfl) [] (objs' := []) (new := []) rfl (by simp) (by simp) rfl (by repeat' first | exact trivial | refine ⟨?_, ?_⟩) rfl rfl (by repeat' first | exact trivial | refine ⟨?_, ?_⟩) (fun _ => ⟨by simp [V.flat, V.flatA, V.flatC, D.flat], flat_nil⟩) ⟨rfl, rfl, rfl⟩
  · have hc6 := not_f hc6
    have h := if_bt h hc6
    refine aw_skip ?_
    refine aw_seq ?_
    refine aw_region ?_
    refine bnd_elim h fun x7 hx7 h => ?_
    refine awl_callP hτ false [0] rfl rfl rfl (enterOk func180 rfl rfl) rfl rfl (by simp) ⟨trivial, trivial, trivial⟩ (by repeat' first | exact trivial | refine ⟨?_, ?_⟩) (impl_Feeder_below_ok n f_ (0 : Int) hx7) ?_
    rintro r0 o0 n0 ⟨rfl, rfl, rfl⟩ -
    refine awl_weak (weak_ofP [0] (l := [(1, .ptr 0 0), (7, .d (.sl false (x7.map eInti64)))]) (objs := [.box [.d (.cx .f32 f_.Source.A.re f_.Source.A.im), .d (.cx .f32 f_.Source.B.re f_.Source.B.im), .d (.cx .f32 f_.Source.C.re f_.Source.C.im), .d (.sl false (f_.Buses.map eSBus))]]) rfl (by simp) rfl (by repeat' first | exact trivial | refine ⟨?_, ?_⟩) ⟨rfl, trivial, (exV_view (f := eInti64) x7 rfl rfl rfl), (exVP_view (f := eInti64) x7 rfl rfl rfl), trivial⟩) ?_
    refine bnd_elim h fun x8 hx8 h => ?_
    refine awl_callP hτ false [0] rfl rfl rfl (enterOk func179 rfl rfl) rfl rfl (by simp) ⟨trivial, trivial, trivial⟩ (by repeat' first | exact trivial | refine ⟨?_, ?_⟩) (impl_Feeder_customers_ok n f_ x7 hx8) ?_
    rintro r0 o0 n0 ⟨rfl, rfl, rfl⟩ -
    refine awl_val hτ rfl rfl rfl ?_
    refine awl_val hτ rfl rfl rfl ?_
    refine awl_nil ?_
    refine aw_weak (weak_ofP [] (l := [(2, .d (.int .i64 x8)), (3, .d (.bool true))]) (objs := []) rfl (by simp) rfl (by repeat' first | exact trivial | refine ⟨?_, ?_⟩) ⟨rfl, trivial, rfl, trivial, trivial⟩) ?_
    refine aw_ret ?_
    have hr := Option.some.inj h
    subst hr
    exact ret_objs (.inr rfl) [] (objs' := []) (new := []) rfl (by simp) (by simp) rfl (by repeat' first | exact trivial | refine ⟨?_, ?_⟩) rfl rfl (by repeat' first | exact trivial | refine ⟨?_, ?_⟩) (fun _ => ⟨by simp [V.flat, V.flatA, V.flatC, D.flat], flat_nil⟩) ⟨rfl, rfl, rfl⟩
theorem impl_AllCustomers_ok (n : Nat) (f_ : SFeeder) {r : Int × Bool} (h : m_impl_AllCustomers n f_ = some r) : ACall prog false 79 [.agg [.d (.cx .f32 f_.Source.A.re f_.Source.A.im), .d (.cx .f32 f_.Source.B.re f_.Source.B.im), .d (.cx .f32 f_.Source.C.re f_.Source.C.im), .d (.sl false (f_.Buses.map eSBus))]] [] (fun v o new => v = .tup [.d (.int .i64 r.1), .d (.bool r.2)] ∧ o = [] ∧ new = []) := impl_AllCustomers_ok_fr0 false n f_ h
theorem impl_AllCustomers_ok_fr (n : Nat) (f_ : SFeeder) {r : Int × Bool} (h : m_impl_AllCustomers n f_ = some r) : ACall prog true 79 [.agg [.d (.cx .f32 f_.Source.A.re f_.Source.A.im), .d (.cx .f32 f_.Source.B.re f_.Source.B.im), .d (.cx .f32 f_.Source.C.re f_.Source.C.im), .d (.sl false (f_.Buses.map eSBus))]] [] (fun v o new => v = .tup [.d (.int .i64 r.1), .d (.bool r.2)] ∧ o = [] ∧ new = []) := impl_AllCustomers_ok_fr0 true n f_ h

def m_impl_share (n : Nat) (a_ : Int) (b_ : Int) : Option Nat :=
  if b_ = (0 : Int) then
    some (0 : Nat)
  else
    (fconv .f64 .f32 (farith .quo .f64 (FloatKind.nearest .f64 a_) (FloatKind.nearest .f64 b_))).bind fun x3 =>
    some x3
theorem impl_share_ok_fr0 (fr : Bool) (n : Nat) (a_ : Int) (b_ : Int) {r : Nat} (h : m_impl_share n a_ b_ = some r) : ACall prog fr 181 [.d (.int .i64 a_), .d (.int .i64 b_)] [] (fun v o new => v = .d (.fl .f32 r) ∧ o = [] ∧ new = []) := by
  refine acall_of_aw hτ func181 rfl (by simp) (by simp) ?_
  unfold m_impl_share at h
  refine aw_seq ?_
  refine aw_region ?_
  refine awl_val hτ rfl rfl rfl ?_
  refine awl_nil ?_
  refine aw_seq ?_
  refine aw_seq ?_
  refine aw_region ?_
  refine awl_val hτ rfl rfl rfl ?_
  refine awl_val hτ (v := .d (.bool (decide (b_ = (0 : Int))))) rfl rfl (or_ieq _ _) ?_
  refine awl_nil ?_
  refine aw_cond rfl (fun hc2 => ?_) (fun hc2 => ?_)
  · have h := if_t h hc2
    refine aw_seq ?_
    refine aw_region ?_
    refine awl_val hτ rfl rfl rfl ?_
    refine awl_nil ?_
    refine aw_weak (weak_ofP [] (l := [(4, .d (.fl .f32 (0 : Nat)))]) (objs := []) rfl (by simp) rfl (by repeat' first | exact trivial | refine ⟨?_, ?_⟩) ⟨rfl, trivial, trivial⟩) ?_
    refine aw_ret ?_
    have hr := Option.some.inj h
    subst hr
    exact ret_objs (.inr rfl) [] (objs' := []) (new := []) rfl (by simp) (by simp) rfl (by repeat' first | exact trivial | refine ⟨?_, ?_⟩) rfl rfl (by repeat' first | exact trivial | refine ⟨?_, ?_⟩) (fun _ => ⟨by simp [V.flat, V.flatA, V.flatC, D.flat], flat_nil⟩) ⟨rfl, rfl, rfl⟩
  · have h := if_f h hc2
    refine aw_skip ?_
    refine aw_seq ?_
    refine aw_region ?_
    refine awl_val hτ rfl rfl rfl ?_
    refine awl_val hτ rfl rfl rfl ?_
    refine awl_val hτ rfl rfl rfl ?_
    refine awl_val hτ rfl rfl rfl ?_
    refine awl_val hτ rfl rfl rfl ?_
    refine bnd_elim h fun x3 hx3 h => ?_
    refine awl_val hτ (v := .d (.fl .f32 x3)) rfl rfl (conv_val hx3) ?_
    refine awl_val hτ rfl rfl rfl ?_
    refine awl_nil ?_
    refine aw_weak (weak_ofP [] (l := [(4, .d (.fl .f32 x3))]) (objs := []) rfl (by simp) rfl (by repeat' first | exact trivial | refine ⟨?_, ?_⟩) ⟨rfl, trivial, trivial⟩) ?_
    refine aw_ret ?_
    have hr := Option.some.inj h
    subst hr
    exact ret_objs (.inr rfl) [] (objs' := []) (new := []) rfl (by simp) (by simp) rfl (by repeat' first | exact trivial | refine ⟨?_, ?_⟩) rfl rfl (by repeat' first | exact trivial | refine ⟨?_, ?_⟩) (fun _ => ⟨by simp [V.flat, V.flatA, V.flatC, D.flat], flat_nil⟩) ⟨rfl, rfl, rfl⟩
theorem impl_share_ok (n : Nat) (a_ : Int) (b_ : Int) {r : Nat} (h : m_impl_share n a_ b_ = some r) : ACall prog false 181 [.d (.int .i64 a_), .d (.int .i64 b_)] [] (fun v o new => v = .d (.fl .f32 r) ∧ o = [] ∧ new = []) := impl_share_ok_fr0 false n a_ b_ h
theorem impl_share_ok_fr (n : Nat) (a_ : Int) (b_ : Int) {r : Nat} (h : m_impl_share n a_ b_ = some r) : ACall prog true 181 [.d (.int .i64 a_), .d (.int .i64 b_)] [] (fun v o new => v = .d (.fl .f32 r) ∧ o = [] ∧ new = []) := impl_share_ok_fr0 true n a_ b_ h

def m_impl_IndicesOf (n : Nat) (f_ : SFeeder) (list_ : List SOutage) : Option (Nat × Nat × Nat × Bool) :=
  (m_impl_AreOutages n f_ list_).bind fun x9 =>
  if x9 = true then
    (m_impl_Feeder_customerSums n f_ list_).bind fun x11 =>
    (m_impl_Feeder_below n f_ (0 : Int)).bind fun x12 =>
    (m_impl_Feeder_customers n f_ x12).bind fun x13 =>
    (m_impl_share n x11.1 x13).bind fun x14 =>
    (m_impl_share n x11.2 x13).bind fun x15 =>
    (m_impl_share n x11.1 x11.2).bind fun x16 =>
    some (x14, x15, x16, true)
  else
    some ((0 : Nat), (0 : Nat), (0 : Nat), false)
theorem impl_IndicesOf_ok_fr0 (fr : Bool) (n : Nat) (f_ : SFeeder) (list_ : List SOutage) {r : Nat × Nat × Nat × Bool} (h : m_impl_IndicesOf n f_ list_ = some r) : ACall prog fr 80 [.agg [.d (.cx .f32 f_.Source.A.re f_.Source.A.im), .d (.cx .f32 f_.Source.B.re f_.Source.B.im), .d (.cx .f32 f_.Source.C.re f_.Source.C.im), .d (.sl false (f_.Buses.map eSBus))], .d (.sl false (list_.map eSOutage))] [] (fun v o new => v = .tup [.d (.fl .f32 r.1), .d (.fl .f32 r.2.1), .d (.fl .f32 r.2.2.1), .d (.bool r.2.2.2)] ∧ o = [] ∧ new = []) := by
  refine acall_of_aw hτ func80 rfl (by simp) (by simp) ?_
  unfold m_impl_IndicesOf at h
  refine aw_seq ?_
  refine aw_region ?_
  refine awl_valH hτ rfl rfl rfl ?_
  refine awl_val hτ rfl rfl rfl ?_
  refine awl_val hτ rfl rfl rfl ?_
  refine awl_val hτ rfl rfl rfl ?_
  refine awl_val hτ rfl rfl rfl ?_
  refine awl_nil ?_
  refine aw_seq ?_
  refine aw_seq ?_
  refine aw_region ?_
  refine awl_val hτ rfl rfl rfl ?_
  refine awl_val hτ rfl rfl rfl ?_
  refine bnd_elim h fun x9 hx9 h => ?_
  refine awl_callP hτ false [] rfl rfl rfl (enterOk func81 rfl rfl) rfl rfl (by simp) ⟨(by repeat' first | exact trivial | refine ⟨?_, ?_⟩), trivial, trivial⟩ (by repeat' first | exact trivial | refine ⟨?_, ?_⟩) (impl_AreOutages_ok n f_ list_ hx9) ?_
  rintro r0 o0 n0 ⟨rfl, rfl, rfl⟩ -
  refine awl_val hτ rfl rfl rfl ?_
  refine awl_nil ?_
  refine aw_weak (weak_ofP [0] (l := [(1, .d (.sl false (list_.map eSOutage))), (2, .ptr 0 0), (14, .d (.bool (!x9)))]) (objs := [.box [.d (.cx .f32 f_.Source.A.re f_.Source.A.im), .d (.cx .f32 f_.Source.B.re f_.Source.B.im), .d (.cx .f32 f_.Source.C.re f_.Source.C.im), .d (.sl false (f_.Buses.map eSBus))]]) rfl (by simp) rfl (by repeat' first | exact trivial | refine ⟨?_, ?_⟩) ⟨rfl, trivial, rfl, trivial, rfl, trivial, trivial⟩) ?_
  refine aw_cond rfl (fun hc10 => ?_) (fun hc10 => ?_)
  · have hc10 := not_t hc10
    have h := if_bf h hc10
    refine aw_seq ?_
    refine aw_region ?_
    refine awl_val hτ rfl rfl rfl ?_
    refine awl_val hτ rfl rfl rfl ?_
    refine awl_val hτ rfl rfl rfl ?_
    refine awl_val hτ rfl rfl rfl ?_
    refine awl_nil ?_
    refine aw_weak (weak_ofP [] (l := [(4, .d (.fl .f32 (0 : Nat))), (5, .d (.fl .f32 (0 : Nat))), (6, .d (.fl .f32 (0 : Nat))), (7, .d (.bool false))]) (objs := []) rfl (by simp) rfl (by repeat' first | exact trivial | refine ⟨?_, ?_⟩) ⟨rfl, trivial, rfl, trivial, rfl, trivial, rfl, trivial, trivial⟩) ?_
    refine aw_ret ?_
    have hr := Option.some.inj h
    subst hr
    exact ret_objs (.inr rfl) [] (objs' := []) (new := []) rfl (by simp) (by simp) rfl (by repeat' first | exact trivial | refine ⟨?_, ?_⟩) rfl rfl (by repeat' first | exact trivial | refine ⟨?_, ?_⟩) (fun _ => ⟨by simp [V.flat, V.flatA, V.flatC, D.flat], flat_nil⟩) ⟨rfl, rfl, rfl⟩
  · have hc10 := not_f hc10
    have h := if_bt h hc10
    refine aw_skip ?_
    refine aw_seq ?_
    refine aw_region ?_
    refine awl_val hτ rfl rfl rfl ?_
    refine bnd_elim h fun x11 hx11 h => ?_
    refine awl_callP hτ false [0] rfl rfl rfl (enterOk func178 rfl rfl) rfl rfl (by simp) ⟨trivial, trivial, trivial⟩ (by repeat' first | exact trivial | refine ⟨?_, ?_⟩) (impl_Feeder_customerSums_ok n f_ list_ hx11) ?_
    rintro r0 o0 n0 ⟨rfl, rfl, rfl⟩ -
    refine awl_val hτ rfl rfl rfl ?_
    refine awl_val hτ rfl rfl rfl ?_
    refine awl_val hτ rfl rfl rfl ?_
    refine awl_val hτ rfl rfl rfl ?_
    refine awl_val hτ rfl rfl rfl ?_
    refine awl_nil ?_
    refine aw_seq ?_
    refine aw_weak (weak_ofP [0] (l := [(2, .ptr 0 0), (8, .d (.int .i64 x11.1)), (9, .d (.int .i64 x11.2))]) (objs := [.box [.d (.cx .f32 f_.Source.A.re f_.Source.A.im), .d (.cx .f32 f_.Source.B.re f_.Source.B.im), .d (.cx .f32 f_.Source.C.re f_.Source.C.im), .d (.sl false (f_.Buses.map eSBus))]]) rfl (by simp) rfl (by repeat' first | exact trivial | refine ⟨?_, ?_⟩) ⟨rfl, trivial, rfl, trivial, rfl, trivial, trivial⟩) ?_
    refine aw_region ?_
    refine bnd_elim h fun x12 hx12 h => ?_
    refine awl_callP hτ false [0] rfl rfl rfl (enterOk func180 rfl rfl) rfl rfl (by simp) ⟨trivial, trivial, trivial⟩ (by repeat' first | exact trivial | refine ⟨?_, ?_⟩) (impl_Feeder_below_ok n f_ (0 : Int) hx12) ?_
    rintro r0 o0 n0 ⟨rfl, rfl, rfl⟩ -
    refine awl_weak (weak_ofP [0] (l := [(2, .ptr 0 0), (8, .d (.int .i64 x11.1)), (9, .d (.int .i64 x11.2)), (20, .d (.sl false (x12.map eInti64)))]) (objs := [.box [.d (.cx .f32 f_.Source.A.re f_.Source.A.im), .d (.cx .f32 f_.Source.B.re f_.Source.B.im), .d (.cx .f32 f_.Source.C.re f_.Source.C.im), .d (.sl false (f_.Buses.map eSBus))]]) rfl (by simp) rfl (by repeat' first | exact trivial | refine ⟨?_, ?_⟩) ⟨rfl, trivial, rfl, trivial, rfl, trivial, (exV_view (f := eInti64) x12 rfl rfl rfl), (exVP_view (f := eInti64) x12 rfl rfl rfl), trivial⟩) ?_
    refine bnd_elim h fun x13 hx13 h => ?_
    refine awl_callP hτ false [0] rfl rfl rfl (enterOk func179 rfl rfl) rfl rfl (by simp) ⟨trivial, trivial, trivial⟩ (by repeat' first | exact trivial | refine ⟨?_, ?_⟩) (impl_Feeder_customers_ok n f_ x12 hx13) ?_
    rintro r0 o0 n0 ⟨rfl, rfl, rfl⟩ -
    refine awl_val hτ rfl rfl rfl ?_
    refine awl_nil ?_
    refine aw_seq ?_
    refine aw_region ?_
    refine awl_val hτ rfl rfl rfl ?_
    refine awl_val hτ rfl rfl rfl ?_
    refine bnd_elim h fun x14 hx14 h => ?_
    refine awl_callP hτ false [] rfl rfl rfl (enterOk func181 rfl rfl) rfl rfl (by simp) ⟨trivial, trivial, trivial⟩ (by repeat' first | exact trivial | refine ⟨?_, ?_⟩) (impl_share_ok n x11.1 x13 hx14) ?_
    rintro r0 o0 n0 ⟨rfl, rfl, rfl⟩ -
    refine awl_val hτ rfl rfl rfl ?_
    refine awl_val hτ rfl rfl rfl ?_
    refine bnd_elim h fun x15 hx15 h => ?_
    refine awl_callP hτ false [] rfl rfl rfl (enterOk func181 rfl rfl) rfl rfl (by simp) ⟨trivial, trivial, trivial⟩ (by repeat' first | exact trivial | refine ⟨?_, ?_⟩) (impl_share_ok n x11.2 x13 hx15) ?_
    rintro r0 o0 n0 ⟨rfl, rfl, rfl⟩ -
    refine awl_val hτ rfl rfl rfl ?_
    refine awl_val hτ rfl rfl rfl ?_
    refine bnd_elim h fun x16 hx16 h => ?_
    refine awl_callP hτ false [] rfl rfl rfl (enterOk func181 rfl rfl) rfl rfl (by simp) ⟨trivial, trivial, trivial⟩ (by repeat' first | exact trivial | refine ⟨?_, ?_⟩) (impl_share_ok n x11.1 x11.2 hx16) ?_
    rintro r0 o0 n0 ⟨rfl, rfl, rfl⟩ -
    refine awl_val hτ rfl rfl rfl ?_
    refine awl_weak (weak_ofP [] (l := [(4, .d (.fl .f32 x14)), (27, .d (.fl .f32 x15)), (30, .d (.fl .f32 x16))]) (objs := []) rfl (by simp) rfl (by repeat' first | exact trivial | refine ⟨?_, ?_⟩) ⟨rfl, trivial, rfl, trivial, rfl, trivial, trivial⟩) ?_
    refine awl_val hτ rfl rfl rfl ?_
    refine awl_val hτ rfl rfl rfl ?_
    refine awl_val hτ rfl rfl rfl ?_
    refine awl_nil ?_
    refine aw_weak (weak_ofP [] (l := [(4, .d (.fl .f32 x14)), (5, .d (.fl .f32 x15)), (6, .d (.fl .f32 x16)), (7, .d (.bool true))]) (objs := []) rfl (by simp) rfl (by repeat' first | exact trivial | refine ⟨?_, ?_⟩) ⟨rfl, trivial, rfl, trivial, rfl, trivial, rfl, trivial, trivial⟩) ?_
    refine aw_ret ?_
    have hr := Option.some.inj h
    subst hr
    exact ret_objs (.inr rfl) [] (objs' := []) (new := []) rfl (by simp) (by simp) rfl (by repeat' first | exact trivial | refine ⟨?_, ?_⟩) rfl rfl (by repeat' first | exact trivial | refine ⟨?_, ?_⟩) (fun _ => ⟨by simp [V.flat, V.flatA, V.flatC, D.flat], flat_nil⟩) ⟨rfl, rfl, rfl⟩
theorem impl_IndicesOf_ok (n : Nat) (f_ : SFeeder) (list_ : List SOutage) {r : Nat × Nat × Nat × Bool} (h : m_impl_IndicesOf n f_ list_ = some r) : ACall prog false 80 [.agg [.d (.cx .f32 f_.Source.A.re f_.Source.A.im), .d (.cx .f32 f_.Source.B.re f_.Source.B.im), .d (.cx .f32 f_.Source.C.re f_.Source.C.im), .d (.sl false (f_.Buses.map eSBus))], .d (.sl false (list_.map eSOutage))] [] (fun v o new => v = .tup [.d (.fl .f32 r.1), .d (.fl .f32 r.2.1), .d (.fl .f32 r.2.2.1), .d (.bool r.2.2.2)] ∧ o = [] ∧ new = []) := impl_IndicesOf_ok_fr0 false n f_ list_ h
theorem impl_IndicesOf_ok_fr (n : Nat) (f_ : SFeeder) (list_ : List SOutage) {r : Nat × Nat × Nat × Bool} (h : m_impl_IndicesOf n f_ list_ = some r) : ACall prog true 80 [.agg [.d (.cx .f32 f_.Source.A.re f_.Source.A.im), .d (.cx .f32 f_.Source.B.re f_.Source.B.im), .d (.cx .f32 f_.Source.C.re f_.Source.C.im), .d (.sl false (f_.Buses.map eSBus))], .d (.sl false (list_.map eSOutage))] [] (fun v o new => v = .tup [.d (.fl .f32 r.1), .d (.fl .f32 r.2.1), .d (.fl .f32 r.2.2.1), .d (.bool r.2.2.2)] ∧ o = [] ∧ new = []) := impl_IndicesOf_ok_fr0 true n f_ list_ h

end Go.Proofs.Ytkagbffdmppbhab.AWN
