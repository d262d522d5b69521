/- Models and contracts, printed by program. -/
import Derived.Test.YtkagbffdmppbhaaTreesA
set_option linter.unusedVariables false
set_option linter.unusedSimpArgs false
set_option maxHeartbeats 2000000
namespace Go.Proofs.Ytkagbffdmppbhaa.AWN
open Go Go.Proofs.Try

def m_slices_Index_l1 (n : Nat) (s_ : List Int) (v_ : Int) : Nat → Int → Option Int
  | 0, _ => none
  | m9 + 1, v6 =>
    if v6 < (s_.length : Int) then
      (getI s_ v6).bind fun x13 =>
      if v_ = x13 then
        some v6
      else
        (m_slices_Index_l1 n s_ v_ m9) (w64 (v6 + (1 : Int)))
    else
      some (-1 : Int)
def m_slices_Index (n : Nat) (s_ : List Int) (v_ : Int) : Option Int :=
  m_slices_Index_l1 n s_ v_ n (0 : Int)
theorem slices_Index_ok_fr0 (fr : Bool) (n : Nat) (s_ : List Int) (v_ : Int) {r : Int} (h : m_slices_Index n s_ v_ = some r) : ACall prog fr 145 [.d (.sl false (s_.map eInti64)), .d (.int .i64 v_)] [] (fun v o new => v = .d (.int .i64 r) ∧ o = [] ∧ new = []) := by
  refine acall_of_aw hτ func145 rfl (by simp) (by simp) ?_
  unfold m_slices_Index at h
  refine aw_seq ?_
  refine aw_region ?_
  refine awl_val hτ rfl rfl rfl ?_
  refine awl_nil ?_
  refine aw_seq ?_
  refine aw_seq ?_
  refine aw_region ?_
  refine awl_val hτ rfl rfl rfl ?_
  refine awl_val hτ (v := .d (.int .i64 (s_.length : Int))) rfl rfl (Eq.trans rfl (or_len (f := eInti64) s_)) ?_
  refine awl_val hτ rfl rfl rfl ?_
  refine awl_nil ?_
  refine aw_block ?_
  refine aw_loop (ι := Nat × Int) (fun (m9, v6) => St.of [(0, .d (.sl false (s_.map eInti64))), (1, .d (.int .i64 v_)), (7, .d (.int .i64 (s_.length : Int))), (8, .d (.int .i64 v6))] [] f145.ntmps 0) (fun (m9, v6) => m_slices_Index_l1 n s_ v_ m9 v6 = some r) (fun x => x.1) (n, (0 : Int)) h (weak_ofP [] (l := [(0, .d (.sl false (s_.map eInti64))), (1, .d (.int .i64 v_)), (7, .d (.int .i64 (s_.length : Int))), (8, .d (.int .i64 (0 : Int)))]) (objs := []) rfl (by simp) rfl (by repeat' first | exact trivial | refine ⟨?_, ?_⟩) ⟨rfl, trivial, rfl, trivial, rfl, trivial, rfl, trivial, trivial⟩) ?_
  rintro ⟨m9, v6⟩ h
  replace h : m_slices_Index_l1 n s_ v_ m9 v6 = some r := h
  rcases m9 with _ | m9
  · rw [m_slices_Index_l1] at h; cases h
  rw [m_slices_Index_l1] at h
  refine aw_seq ?_
  refine aw_region ?_
  refine awl_val hτ rfl rfl rfl ?_
  refine awl_nil ?_
  refine aw_seq ?_
  refine aw_cond rfl (fun hc11 => ?_) (fun hc11 => ?_)
  · have h := if_t h hc11
    refine aw_skip ?_
    refine aw_seq ?_
    refine aw_block ?_
    refine aw_seq ?_
    refine aw_region ?_
    refine awl_val hτ rfl rfl rfl ?_
    refine awl_val hτ rfl rfl rfl ?_
    refine awl_nil ?_
    refine aw_seq ?_
    refine aw_region ?_
    refine awl_val hτ rfl rfl rfl ?_
    refine awl_val hτ rfl rfl rfl ?_
    refine awl_val hτ rfl rfl rfl ?_
    refine bnd_elim h fun x13 hx13 h => ?_
    refine awl_elem hτ rfl rfl rfl (getI_some hx13).1 (map_getI hx13) rfl ?_
    refine awl_val hτ rfl rfl rfl ?_
    refine awl_val hτ (v := .d (.bool (decide (v_ = x13)))) rfl rfl (or_ieq _ _) ?_
    refine awl_nil ?_
    refine aw_weak (weak_ofP [] (l := [(0, .d (.sl false (s_.map eInti64))), (1, .d (.int .i64 v_)), (5, .d (.int .i64 v6)), (7, .d (.int .i64 (s_.length : Int))), (8, .d (.int .i64 v6)), (16, .d (.bool (decide (v_ = x13))))]) (objs := []) rfl (by simp) rfl (by repeat' first | exact trivial | refine ⟨?_, ?_⟩) ⟨rfl, trivial, rfl, trivial, rfl, trivial, rfl, trivial, rfl, trivial, rfl, trivial, trivial⟩) ?_
    refine aw_cond rfl (fun hc14 => ?_) (fun hc14 => ?_)
    · have h := if_t h hc14
      refine aw_seq ?_
      refine aw_region ?_
      refine awl_val hτ rfl rfl rfl ?_
      refine awl_val hτ rfl rfl rfl ?_
      refine awl_nil ?_
      refine aw_weak (weak_ofP [] (l := [(4, .d (.int .i64 v6))]) (objs := []) rfl (by simp) rfl (by repeat' first | exact trivial | refine ⟨?_, ?_⟩) ⟨rfl, trivial, trivial⟩) ?_
      refine aw_ret ?_
      have hr := Option.some.inj h
      subst hr
      exact ret_objs (.inr rfl) [] (objs' := []) (new := []) rfl (by simp) (by simp) rfl (by repeat' first | exact trivial | refine ⟨?_, ?_⟩) rfl rfl (by repeat' first | exact trivial | refine ⟨?_, ?_⟩) (fun _ => ⟨by simp [V.flat, V.flatA, V.flatC, D.flat], flat_nil⟩) ⟨rfl, rfl, rfl⟩
    · have h := if_f h hc14
      refine aw_skip ?_
      refine aw_region ?_
      refine awl_val hτ rfl rfl rfl ?_
      refine awl_val hτ rfl rfl rfl ?_
      refine awl_nil ?_
      exact ⟨(m9, (w64 (v6 + (1 : Int)))), h, Nat.lt_succ_self m9, (weak_ofP [] (l := [(0, .d (.sl false (s_.map eInti64))), (1, .d (.int .i64 v_)), (7, .d (.int .i64 (s_.length : Int))), (8, .d (.int .i64 (w64 (v6 + (1 : Int)))))]) (objs := []) rfl (by simp) rfl (by repeat' first | exact trivial | refine ⟨?_, ?_⟩) ⟨rfl, trivial, rfl, trivial, rfl, trivial, rfl, trivial, trivial⟩)⟩
  · have h := if_f h hc11
    refine aw_exit ?_
    refine aw_seq ?_
    refine aw_region ?_
    refine awl_val hτ rfl rfl rfl ?_
    refine awl_nil ?_
    refine aw_weak (weak_ofP [] (l := [(4, .d (.int .i64 (-1 : Int)))]) (objs := []) rfl (by simp) rfl (by repeat' first | exact trivial | refine ⟨?_, ?_⟩) ⟨rfl, trivial, trivial⟩) ?_
    refine aw_ret ?_
    have hr := Option.some.inj h
    subst hr
    exact ret_objs (.inr rfl) [] (objs' := []) (new := []) rfl (by simp) (by simp) rfl (by repeat' first | exact trivial | refine ⟨?_, ?_⟩) rfl rfl (by repeat' first | exact trivial | refine ⟨?_, ?_⟩) (fun _ => ⟨by simp [V.flat, V.flatA, V.flatC, D.flat], flat_nil⟩) ⟨rfl, rfl, rfl⟩
theorem slices_Index_ok (n : Nat) (s_ : List Int) (v_ : Int) {r : Int} (h : m_slices_Index n s_ v_ = some r) : ACall prog false 145 [.d (.sl false (s_.map eInti64)), .d (.int .i64 v_)] [] (fun v o new => v = .d (.int .i64 r) ∧ o = [] ∧ new = []) := slices_Index_ok_fr0 false n s_ v_ h
theorem slices_Index_ok_fr (n : Nat) (s_ : List Int) (v_ : Int) {r : Int} (h : m_slices_Index n s_ v_ = some r) : ACall prog true 145 [.d (.sl false (s_.map eInti64)), .d (.int .i64 v_)] [] (fun v o new => v = .d (.int .i64 r) ∧ o = [] ∧ new = []) := slices_Index_ok_fr0 true n s_ v_ h

def m_slices_Contains (n : Nat) (s_ : List Int) (v_ : Int) : Option Bool :=
  (m_slices_Index n s_ v_).bind fun x2 =>
  some (decide (x2 ≥ (0 : Int)))
theorem slices_Contains_ok_fr0 (fr : Bool) (n : Nat) (s_ : List Int) (v_ : Int) {r : Bool} (h : m_slices_Contains n s_ v_ = some r) : ACall prog fr 86 [.d (.sl false (s_.map eInti64)), .d (.int .i64 v_)] [] (fun v o new => v = .d (.bool r) ∧ o = [] ∧ new = []) := by
  refine acall_of_aw hτ func86 rfl (by simp) (by simp) ?_
  unfold m_slices_Contains at h
  refine aw_seq ?_
  refine aw_region ?_
  refine awl_val hτ rfl rfl rfl ?_
  refine awl_nil ?_
  refine aw_seq ?_
  refine aw_region ?_
  refine awl_val hτ rfl rfl rfl ?_
  refine awl_val hτ rfl rfl rfl ?_
  refine bnd_elim h fun x2 hx2 h => ?_
  refine awl_callP hτ false [] rfl rfl rfl (enterOk func145 rfl rfl) rfl rfl (by simp) ⟨trivial, trivial, trivial⟩ (by repeat' first | exact trivial | refine ⟨?_, ?_⟩) (slices_Index_ok n s_ v_ hx2) ?_
  rintro r0 o0 n0 ⟨rfl, rfl, rfl⟩ -
  refine awl_val hτ rfl rfl rfl ?_
  refine awl_val hτ rfl rfl rfl ?_
  refine awl_nil ?_
  refine aw_weak (weak_ofP [] (l := [(4, .d (.bool (decide (x2 ≥ (0 : Int)))))]) (objs := []) rfl (by simp) rfl (by repeat' first | exact trivial | refine ⟨?_, ?_⟩) ⟨rfl, trivial, trivial⟩) ?_
  refine aw_ret ?_
  have hr := Option.some.inj h
  subst hr
  exact ret_objs (.inr rfl) [] (objs' := []) (new := []) rfl (by simp) (by simp) rfl (by repeat' first | exact trivial | refine ⟨?_, ?_⟩) rfl rfl (by repeat' first | exact trivial | refine ⟨?_, ?_⟩) (fun _ => ⟨by simp [V.flat, V.flatA, V.flatC, D.flat], flat_nil⟩) ⟨rfl, rfl, rfl⟩
theorem slices_Contains_ok (n : Nat) (s_ : List Int) (v_ : Int) {r : Bool} (h : m_slices_Contains n s_ v_ = some r) : ACall prog false 86 [.d (.sl false (s_.map eInti64)), .d (.int .i64 v_)] [] (fun v o new => v = .d (.bool r) ∧ o = [] ∧ new = []) := slices_Contains_ok_fr0 false n s_ v_ h
theorem slices_Contains_ok_fr (n : Nat) (s_ : List Int) (v_ : Int) {r : Bool} (h : m_slices_Contains n s_ v_ = some r) : ACall prog true 86 [.d (.sl false (s_.map eInti64)), .d (.int .i64 v_)] [] (fun v o new => v = .d (.bool r) ∧ o = [] ∧ new = []) := slices_Contains_ok_fr0 true n s_ v_ h

def m_impl_Feeder_below_j2 (n : Nat) (k26 : List Int → Int → Option (List Int)) (v18 : Int) (v32 : List Int) : Option (List Int) :=
  k26 v32 (w64 (v18 + (1 : Int)))
def m_impl_Feeder_below_l1 (n : Nat) (f_ : SFeeder) : Nat → List Int → Int → Option (List Int)
  | 0, _, _ => none
  | m25 + 1, v17, v18 =>
    if v18 < (f_.Buses.length : Int) then
      (getI f_.Buses v18).bind fun x34 =>
      (m_slices_Contains n v17 x34.Parent).bind fun x35 =>
      if x35 = true then
        grd (room (v17.length + 1) 8) <|
        m_impl_Feeder_below_j2 n (m_impl_Feeder_below_l1 n f_ m25) v18 (v17 ++ [v18])
      else
        m_impl_Feeder_below_j2 n (m_impl_Feeder_below_l1 n f_ m25) v18 v17
    else
      some v17
def m_impl_Feeder_below (n : Nat) (f_ : SFeeder) (bus_ : Int) : Option (List Int) :=
  m_impl_Feeder_below_l1 n f_ n [bus_] (w64 (bus_ + (1 : Int)))
theorem impl_Feeder_below_ok (n : Nat) (f_ : SFeeder) (bus_ : Int) {r : List Int} (h : m_impl_Feeder_below n f_ bus_ = some r) : ACall prog false 81 [.ptr 0 0, .d (.int .i64 bus_)] [.box [.d (.cx .f32 f_.Source.A.re f_.Source.A.im), .d (.cx .f32 f_.Source.B.re f_.Source.B.im), .d (.cx .f32 f_.Source.C.re f_.Source.C.im), .d (.sl false (f_.Buses.map eSBus))]] (fun v o new => v = .row 1 r.length 0 r.length ∧ o = [.box [.d (.cx .f32 f_.Source.A.re f_.Source.A.im), .d (.cx .f32 f_.Source.B.re f_.Source.B.im), .d (.cx .f32 f_.Source.C.re f_.Source.C.im), .d (.sl false (f_.Buses.map eSBus))]] ∧ new = [.row 1 (r.map eInti64)]) := by
  refine acall_of_aw hτ func81 rfl (by simp) (by simp) ?_
  unfold m_impl_Feeder_below at h
  refine aw_seq ?_
  refine aw_region ?_
  refine awl_val hτ rfl rfl rfl ?_
  refine awl_nil ?_
  refine aw_seq ?_
  refine aw_region ?_
  refine awl_val hτ rfl rfl rfl ?_
  refine awl_valH hτ rfl rfl rfl ?_
  refine awl_val hτ rfl rfl rfl ?_
  refine awl_nil ?_
  refine aw_seq ?_
  refine aw_seq ?_
  refine aw_region ?_
  refine awl_val hτ rfl rfl rfl ?_
  refine awl_val hτ rfl rfl rfl ?_
  refine awl_val hτ rfl rfl rfl ?_
  refine awl_nil ?_
  refine aw_block ?_
  refine aw_loop (ι := Nat × List Int × Int) (fun (m25, v17, v18) => St.of [(0, .ptr 0 0), (5, .row 1 v17.length 0 v17.length), (6, .d (.int .i64 v18))] [.box [.d (.cx .f32 f_.Source.A.re f_.Source.A.im), .d (.cx .f32 f_.Source.B.re f_.Source.B.im), .d (.cx .f32 f_.Source.C.re f_.Source.C.im), .d (.sl false (f_.Buses.map eSBus))], .row 1 (v17.map eInti64)] f81.ntmps 1) (fun (m25, v17, v18) => m_impl_Feeder_below_l1 n f_ m25 v17 v18 = some r) (fun x => x.1) (n, [bus_], (w64 (bus_ + (1 : Int)))) h (weak_ofP [0, 1] (l := [(0, .ptr 0 0), (5, .row 1 ([bus_].length) 0 ([bus_].length)), (6, .d (.int .i64 (w64 (bus_ + (1 : Int)))))]) (objs := [.box [.d (.cx .f32 f_.Source.A.re f_.Source.A.im), .d (.cx .f32 f_.Source.B.re f_.Source.B.im), .d (.cx .f32 f_.Source.C.re f_.Source.C.im), .d (.sl false (f_.Buses.map eSBus))], .row 1 ([bus_].map eInti64)]) rfl (by simp) rfl (by repeat' first | exact trivial | refine ⟨?_, ?_⟩) ⟨rfl, trivial, rfl, trivial, rfl, trivial, trivial⟩) ?_
  rintro ⟨m25, v17, v18⟩ h
  replace h : m_impl_Feeder_below_l1 n f_ m25 v17 v18 = some r := h
  rcases m25 with _ | m25
  · rw [m_impl_Feeder_below_l1] at h; cases h
  rw [m_impl_Feeder_below_l1] at h
  refine aw_seq ?_
  refine aw_seq ?_
  refine aw_region ?_
  refine awl_val hτ rfl rfl rfl ?_
  refine awl_val hτ rfl rfl rfl ?_
  refine awl_val hτ rfl rfl rfl ?_
  refine awl_val hτ rfl rfl rfl ?_
  refine awl_val hτ rfl rfl rfl ?_
  refine awl_val hτ (v := .d (.int .i64 (f_.Buses.length : Int))) rfl rfl (Eq.trans rfl (or_len (f := eSBus) f_.Buses)) ?_
  refine awl_val hτ rfl rfl rfl ?_
  refine awl_nil ?_
  refine aw_weak (weak_ofP [0, 1] (l := [(0, .ptr 0 0), (5, .row 1 v17.length 0 v17.length), (6, .d (.int .i64 v18)), (17, .d (.bool (decide (v18 < (f_.Buses.length : Int)))))]) (objs := [.box [.d (.cx .f32 f_.Source.A.re f_.Source.A.im), .d (.cx .f32 f_.Source.B.re f_.Source.B.im), .d (.cx .f32 f_.Source.C.re f_.Source.C.im), .d (.sl false (f_.Buses.map eSBus))], .row 1 (v17.map eInti64)]) rfl (by simp) rfl (by repeat' first | exact trivial | refine ⟨?_, ?_⟩) ⟨rfl, trivial, rfl, trivial, rfl, trivial, rfl, trivial, trivial⟩) ?_
  refine aw_cond rfl (fun hc27 => ?_) (fun hc27 => ?_)
  · have h := if_t h hc27
    refine aw_skip ?_
    refine aw_hk1 (ι := List Int) (fun v32 => St.of [(0, .ptr 0 0), (5, .row 1 v32.length 0 v32.length), (6, .d (.int .i64 v18))] [.box [.d (.cx .f32 f_.Source.A.re f_.Source.A.im), .d (.cx .f32 f_.Source.B.re f_.Source.B.im), .d (.cx .f32 f_.Source.C.re f_.Source.C.im), .d (.sl false (f_.Buses.map eSBus))], .row 1 (v32.map eInti64)] f81.ntmps 1) (fun v32 => m_impl_Feeder_below_j2 n (m_impl_Feeder_below_l1 n f_ m25) v18 v32 = some r) ?_ (fun hk33 => ?_)
    · rintro v32 h
      replace h : m_impl_Feeder_below_j2 n (m_impl_Feeder_below_l1 n f_ m25) v18 v32 = some r := h
      unfold m_impl_Feeder_below_j2 at h
      refine aw_region ?_
      refine awl_val hτ rfl rfl rfl ?_
      refine awl_val hτ rfl rfl rfl ?_
      refine awl_val hτ rfl rfl rfl ?_
      refine awl_nil ?_
      exact ⟨(m25, v32, (w64 (v18 + (1 : Int)))), h, Nat.lt_succ_self m25, (weak_ofP [0, 1] (l := [(0, .ptr 0 0), (5, .row 1 v32.length 0 v32.length), (6, .d (.int .i64 (w64 (v18 + (1 : Int)))))]) (objs := [.box [.d (.cx .f32 f_.Source.A.re f_.Source.A.im), .d (.cx .f32 f_.Source.B.re f_.Source.B.im), .d (.cx .f32 f_.Source.C.re f_.Source.C.im), .d (.sl false (f_.Buses.map eSBus))], .row 1 (v32.map eInti64)]) rfl (by simp) rfl (by repeat' first | exact trivial | refine ⟨?_, ?_⟩) ⟨rfl, trivial, rfl, trivial, rfl, trivial, trivial⟩)⟩
    · refine aw_seq ?_
      refine aw_block ?_
      refine aw_seq ?_
      refine aw_region ?_
      refine awl_val hτ rfl rfl rfl ?_
      refine awl_val hτ rfl rfl rfl ?_
      refine awl_val hτ rfl rfl rfl ?_
      refine awl_val hτ rfl rfl rfl ?_
      refine awl_val hτ rfl rfl rfl ?_
      refine awl_val hτ rfl rfl rfl ?_
      refine bnd_elim h fun x34 hx34 h => ?_
      refine awl_elem hτ rfl rfl rfl (getI_some hx34).1 (map_getI hx34) rfl ?_
      refine awl_val hτ rfl rfl rfl ?_
      refine awl_val hτ rfl rfl rfl ?_
      refine awl_weak (weak_ofP [0, 1] (l := [(0, .ptr 0 0), (5, .row 1 v17.length 0 v17.length), (6, .d (.int .i64 v18)), (20, .row 1 v17.length 0 v17.length), (28, .d (.int .i64 x34.Parent))]) (objs := [.box [.d (.cx .f32 f_.Source.A.re f_.Source.A.im), .d (.cx .f32 f_.Source.B.re f_.Source.B.im), .d (.cx .f32 f_.Source.C.re f_.Source.C.im), .d (.sl false (f_.Buses.map eSBus))], .row 1 (v17.map eInti64)]) rfl (by simp) rfl (by repeat' first | exact trivial | refine ⟨?_, ?_⟩) ⟨rfl, trivial, rfl, trivial, rfl, trivial, rfl, trivial, rfl, trivial, trivial⟩) ?_
      refine bnd_elim h fun x35 hx35 h => ?_
      refine awl_callP hτ true [] rfl rfl rfl (enterOk func86 rfl rfl) (mapO_cons (exV_view (f := eInti64) v17 rfl rfl rfl) (mapO_cons rfl mapO_nil)) rfl (by simp) ⟨(exVP_view (f := eInti64) v17 rfl rfl rfl), trivial, trivial⟩ (by repeat' first | exact trivial | refine ⟨?_, ?_⟩) (slices_Contains_ok_fr n v17 x34.Parent hx35) ?_
      rintro r0 o0 n0 ⟨rfl, rfl, rfl⟩ -
      refine awl_nil ?_
      refine aw_cond rfl (fun hc36 => ?_) (fun hc36 => ?_)
      · have h := if_bt h hc36
        refine aw_region ?_
        refine awl_val hτ rfl rfl rfl ?_
        refine awl_val hτ rfl rfl rfl ?_
        refine awl_valH hτ rfl rfl rfl ?_
        refine grd_elim h fun hg37 h => ?_
        refine awl_needH hτ rfl rfl (Eq.trans rfl (or_append (f := eInti64) v17 [v18] rfl)) ⟨⟨rfl, by decide⟩, len_map _, rfl, rfl, hg37, by decide, (all1 rfl)⟩ ?_
        refine awl_val hτ rfl rfl rfl ?_
        refine awl_nil ?_
        refine aw_weak (weak_ofP [0, 1] (l := [(0, .ptr 0 0), (5, .row 1 ((v17 ++ [v18]).length) 0 ((v17 ++ [v18]).length)), (6, .d (.int .i64 v18))]) (objs := [.box [.d (.cx .f32 f_.Source.A.re f_.Source.A.im), .d (.cx .f32 f_.Source.B.re f_.Source.B.im), .d (.cx .f32 f_.Source.C.re f_.Source.C.im), .d (.sl false (f_.Buses.map eSBus))], .row 1 ((v17 ++ [v18]).map eInti64)]) rfl (by simp) rfl (by repeat' first | exact trivial | refine ⟨?_, ?_⟩) ⟨rfl, trivial, rfl, trivial, rfl, trivial, trivial⟩) ?_
        exact hk33 (v17 ++ [v18]) h
      · have h := if_bf h hc36
        refine aw_skip ?_
        refine aw_weak (weak_ofP [0, 1] (l := [(0, .ptr 0 0), (5, .row 1 v17.length 0 v17.length), (6, .d (.int .i64 v18))]) (objs := [.box [.d (.cx .f32 f_.Source.A.re f_.Source.A.im), .d (.cx .f32 f_.Source.B.re f_.Source.B.im), .d (.cx .f32 f_.Source.C.re f_.Source.C.im), .d (.sl false (f_.Buses.map eSBus))], .row 1 (v17.map eInti64)]) rfl (by simp) rfl (by repeat' first | exact trivial | refine ⟨?_, ?_⟩) ⟨rfl, trivial, rfl, trivial, rfl, trivial, trivial⟩) ?_
        exact hk33 v17 h
  · have h := if_f h hc27
    refine aw_exit ?_
    refine aw_seq ?_
    refine aw_region ?_
    refine awl_val hτ rfl rfl rfl ?_
    refine awl_val hτ rfl rfl rfl ?_
    refine awl_nil ?_
    refine aw_weak (weak_ofP [0, 1] (l := [(4, .row 1 v17.length 0 v17.length)]) (objs := [.box [.d (.cx .f32 f_.Source.A.re f_.Source.A.im), .d (.cx .f32 f_.Source.B.re f_.Source.B.im), .d (.cx .f32 f_.Source.C.re f_.Source.C.im), .d (.sl false (f_.Buses.map eSBus))], .row 1 (v17.map eInti64)]) rfl (by simp) rfl (by repeat' first | exact trivial | refine ⟨?_, ?_⟩) ⟨rfl, trivial, trivial⟩) ?_
    refine aw_ret ?_
    have hr := Option.some.inj h
    subst hr
    exact ret_objs (.inr rfl) [1] (objs' := [.box [.d (.cx .f32 f_.Source.A.re f_.Source.A.im), .d (.cx .f32 f_.Source.B.re f_.Source.B.im), .d (.cx .f32 f_.Source.C.re f_.Source.C.im), .d (.sl false (f_.Buses.map eSBus))]]) (new := [.row 1 (v17.map eInti64)]) rfl (by simp) (by simp) rfl (by repeat' first | exact trivial | refine ⟨?_, ?_⟩) rfl rfl (by repeat' first | exact trivial | refine ⟨?_, ?_⟩) (fun h => nomatch h) ⟨rfl, rfl, rfl⟩

def m_impl_BusesBelow (n : Nat) (f_ : SFeeder) (bus_ : Int) : Option (List Int × Bool) :=
  (m_impl_Feeder_has n f_ bus_).bind fun x4 =>
  if x4 = true then
    (m_impl_Feeder_below n f_ bus_).bind fun x6 =>
    some (x6, true)
  else
    some (([] : List Int), false)
theorem impl_BusesBelow_ok_fr0 (fr : Bool) (n : Nat) (f_ : SFeeder) (bus_ : Int) {r : List Int × Bool} (h : m_impl_BusesBelow n f_ bus_ = some r) : ACall prog fr 16 [.agg [.d (.cx .f32 f_.Source.A.re f_.Source.A.im), .d (.cx .f32 f_.Source.B.re f_.Source.B.im), .d (.cx .f32 f_.Source.C.re f_.Source.C.im), .d (.sl false (f_.Buses.map eSBus))], .d (.int .i64 bus_)] [] (fun v o new => v = .tup [.row 0 r.1.length 0 r.1.length, .d (.bool r.2)] ∧ o = [] ∧ new = [.row 1 (r.1.map eInti64)]) := by
  refine acall_of_aw hτ func16 rfl (by simp) (by simp) ?_
  unfold m_impl_BusesBelow at h
  refine aw_seq ?_
  refine aw_region ?_
  refine awl_valH hτ rfl rfl rfl ?_
  refine awl_val hτ rfl rfl rfl ?_
  refine awl_val hτ rfl rfl rfl ?_
  refine awl_nil ?_
  refine aw_seq ?_
  refine aw_seq ?_
  refine aw_region ?_
  refine awl_val hτ rfl rfl rfl ?_
  refine bnd_elim h fun x4 hx4 h => ?_
  refine awl_callP hτ false [0] rfl rfl rfl (enterOk func79 rfl rfl) rfl rfl (by simp) ⟨trivial, trivial, trivial⟩ (by repeat' first | exact trivial | refine ⟨?_, ?_⟩) (impl_Feeder_has_ok n f_ bus_ hx4) ?_
  rintro r0 o0 n0 ⟨rfl, rfl, rfl⟩ -
  refine awl_val hτ rfl rfl rfl ?_
  refine awl_nil ?_
  refine aw_weak (weak_ofP [0] (l := [(1, .d (.int .i64 bus_)), (2, .ptr 0 0), (8, .d (.bool (!x4)))]) (objs := [.box [.d (.cx .f32 f_.Source.A.re f_.Source.A.im), .d (.cx .f32 f_.Source.B.re f_.Source.B.im), .d (.cx .f32 f_.Source.C.re f_.Source.C.im), .d (.sl false (f_.Buses.map eSBus))]]) rfl (by simp) rfl (by repeat' first | exact trivial | refine ⟨?_, ?_⟩) ⟨rfl, trivial, rfl, trivial, rfl, trivial, trivial⟩) ?_
  refine aw_cond rfl (fun hc5 => ?_) (fun hc5 => ?_)
  · have hc5 := not_t hc5
    have h := if_bf h hc5
    refine aw_seq ?_
    refine aw_region ?_
    refine awl_val hτ rfl rfl rfl ?_
    refine awl_val hτ rfl rfl rfl ?_
    refine awl_nil ?_
    refine aw_weak (weak_ofP [] (l := [(4, .d (.nils)), (5, .d (.bool false))]) (objs := []) rfl (by simp) rfl (by repeat' first | exact trivial | refine ⟨?_, ?_⟩) ⟨rfl, trivial, rfl, trivial, trivial⟩) ?_
    refine aw_weak (weak_relax [1] (l' := [(4, .row 0 (([] : List Int).length) 0 (([] : List Int).length)), (5, .d (.bool false))]) (objs' := []) (.cons (.c (.ghost ⟨Nat.le_of_ble_eq_true rfl, Nat.le_of_ble_eq_true rfl⟩)) (.cons (.c (.refl _)) .nil)) .nil) ?_
    refine aw_ret ?_
    have hr := Option.some.inj h
    subst hr
    exact ret_objs (.inr rfl) [0] (objs' := []) (new := [.row 1 (([] : List Int).map eInti64)]) rfl (by simp) (by simp) rfl (by repeat' first | exact trivial | refine ⟨?_, ?_⟩) rfl rfl (by repeat' first | exact trivial | refine ⟨?_, ?_⟩) (fun _ => ⟨by simp [V.flat, V.flatA, V.flatC, D.flat], (flat_cons (flat_row eInti64_flat _) flat_nil)⟩) ⟨rfl, rfl, rfl⟩
  · have hc5 := not_f hc5
    have h := if_bt h hc5
    refine aw_skip ?_
    refine aw_seq ?_
    refine aw_region ?_
    refine awl_val hτ rfl rfl rfl ?_
    refine bnd_elim h fun x6 hx6 h => ?_
    refine awl_callP hτ false [0] rfl rfl rfl (enterOk func81 rfl rfl) rfl rfl (by simp) ⟨trivial, trivial, trivial⟩ (by repeat' first | exact trivial | refine ⟨?_, ?_⟩) (impl_Feeder_below_ok n f_ bus_ hx6) ?_
    rintro r0 o0 n0 ⟨rfl, rfl, rfl⟩ -
    refine awl_val hτ rfl rfl rfl ?_
    refine awl_val hτ rfl rfl rfl ?_
    refine awl_nil ?_
    refine aw_weak (weak_ofP [1] (l := [(4, .row 0 x6.length 0 x6.length), (5, .d (.bool true))]) (objs := [.row 1 (x6.map eInti64)]) rfl (by simp) rfl (by repeat' first | exact trivial | refine ⟨?_, ?_⟩) ⟨rfl, trivial, rfl, trivial, trivial⟩) ?_
    refine aw_ret ?_
    have hr := Option.some.inj h
    subst hr
    exact ret_objs (.inr rfl) [0] (objs' := []) (new := [.row 1 (x6.map eInti64)]) rfl (by simp) (by simp) rfl (by repeat' first | exact trivial | refine ⟨?_, ?_⟩) rfl rfl (by repeat' first | exact trivial | refine ⟨?_, ?_⟩) (fun _ => ⟨by simp [V.flat, V.flatA, V.flatC, D.flat], (flat_cons (flat_row eInti64_flat _) flat_nil)⟩) ⟨rfl, rfl, rfl⟩
theorem impl_BusesBelow_ok (n : Nat) (f_ : SFeeder) (bus_ : Int) {r : List Int × Bool} (h : m_impl_BusesBelow n f_ bus_ = some r) : ACall prog false 16 [.agg [.d (.cx .f32 f_.Source.A.re f_.Source.A.im), .d (.cx .f32 f_.Source.B.re f_.Source.B.im), .d (.cx .f32 f_.Source.C.re f_.Source.C.im), .d (.sl false (f_.Buses.map eSBus))], .d (.int .i64 bus_)] [] (fun v o new => v = .tup [.row 0 r.1.length 0 r.1.length, .d (.bool r.2)] ∧ o = [] ∧ new = [.row 1 (r.1.map eInti64)]) := impl_BusesBelow_ok_fr0 false n f_ bus_ h
theorem impl_BusesBelow_ok_fr (n : Nat) (f_ : SFeeder) (bus_ : Int) {r : List Int × Bool} (h : m_impl_BusesBelow n f_ bus_ = some r) : ACall prog true 16 [.agg [.d (.cx .f32 f_.Source.A.re f_.Source.A.im), .d (.cx .f32 f_.Source.B.re f_.Source.B.im), .d (.cx .f32 f_.Source.C.re f_.Source.C.im), .d (.sl false (f_.Buses.map eSBus))], .d (.int .i64 bus_)] [] (fun v o new => v = .tup [.row 0 r.1.length 0 r.1.length, .d (.bool r.2)] ∧ o = [] ∧ new = [.row 1 (r.1.map eInti64)]) := impl_BusesBelow_ok_fr0 true n f_ bus_ h

def m_impl_Feeder_children_j2 (n : Nat) (k22 : List Int → Int → Option (List Int)) (v15 : Int) (v27 : List Int) : Option (List Int) :=
  k22 v27 (w64 (v15 + (1 : Int)))
def m_impl_Feeder_children_l1 (n : Nat) (f_ : SFeeder) (bus_ : Int) : Nat → List Int → Int → Option (List Int)
  | 0, _, _ => none
  | m21 + 1, v14, v15 =>
    if v15 < (f_.Buses.length : Int) then
      (getI f_.Buses v15).bind fun x29 =>
      if x29.Parent = bus_ then
        grd (room (v14.length + 1) 8) <|
        m_impl_Feeder_children_j2 n (m_impl_Feeder_children_l1 n f_ bus_ m21) v15 (v14 ++ [v15])
      else
        m_impl_Feeder_children_j2 n (m_impl_Feeder_children_l1 n f_ bus_ m21) v15 v14
    else
      some v14
def m_impl_Feeder_children (n : Nat) (f_ : SFeeder) (bus_ : Int) : Option (List Int) :=
  m_impl_Feeder_children_l1 n f_ bus_ n ([] : List Int) (0 : Int)
theorem impl_Feeder_children_ok (n : Nat) (f_ : SFeeder) (bus_ : Int) {r : List Int} (h : m_impl_Feeder_children n f_ bus_ = some r) : ACall prog false 82 [.ptr 0 0, .d (.int .i64 bus_)] [.box [.d (.cx .f32 f_.Source.A.re f_.Source.A.im), .d (.cx .f32 f_.Source.B.re f_.Source.B.im), .d (.cx .f32 f_.Source.C.re f_.Source.C.im), .d (.sl false (f_.Buses.map eSBus))]] (fun v o new => v = .row 1 r.length 0 r.length ∧ o = [.box [.d (.cx .f32 f_.Source.A.re f_.Source.A.im), .d (.cx .f32 f_.Source.B.re f_.Source.B.im), .d (.cx .f32 f_.Source.C.re f_.Source.C.im), .d (.sl false (f_.Buses.map eSBus))]] ∧ new = [.row 1 (r.map eInti64)]) := by
  refine acall_of_aw hτ func82 rfl (by simp) (by simp) ?_
  unfold m_impl_Feeder_children at h
  refine aw_seq ?_
  refine aw_region ?_
  refine awl_val hτ rfl rfl rfl ?_
  refine awl_nil ?_
  refine aw_seq ?_
  refine aw_region ?_
  refine awl_valH hτ rfl rfl rfl ?_
  refine awl_val hτ rfl rfl rfl ?_
  refine awl_nil ?_
  refine aw_seq ?_
  refine aw_seq ?_
  refine aw_region ?_
  refine awl_val hτ rfl rfl rfl ?_
  refine awl_val hτ rfl rfl rfl ?_
  refine awl_val hτ rfl rfl rfl ?_
  refine awl_val hτ rfl rfl rfl ?_
  refine awl_val hτ (v := .d (.int .i64 (f_.Buses.length : Int))) rfl rfl (Eq.trans rfl (or_len (f := eSBus) f_.Buses)) ?_
  refine awl_val hτ rfl rfl rfl ?_
  refine awl_nil ?_
  refine aw_block ?_
  refine aw_loop (ι := Nat × List Int × Int) (fun (m21, v14, v15) => St.of [(1, .d (.int .i64 bus_)), (5, .row 1 v14.length 0 v14.length), (12, .d (.sl false (f_.Buses.map eSBus))), (13, .d (.int .i64 (f_.Buses.length : Int))), (14, .d (.int .i64 v15))] [.box [.d (.cx .f32 f_.Source.A.re f_.Source.A.im), .d (.cx .f32 f_.Source.B.re f_.Source.B.im), .d (.cx .f32 f_.Source.C.re f_.Source.C.im), .d (.sl false (f_.Buses.map eSBus))], .row 1 (v14.map eInti64)] f82.ntmps 1) (fun (m21, v14, v15) => m_impl_Feeder_children_l1 n f_ bus_ m21 v14 v15 = some r) (fun x => x.1) (n, ([] : List Int), (0 : Int)) h (weak_ofP [0, 1] (l := [(1, .d (.int .i64 bus_)), (5, .row 1 (([] : List Int).length) 0 (([] : List Int).length)), (12, .d (.sl false (f_.Buses.map eSBus))), (13, .d (.int .i64 (f_.Buses.length : Int))), (14, .d (.int .i64 (0 : Int)))]) (objs := [.box [.d (.cx .f32 f_.Source.A.re f_.Source.A.im), .d (.cx .f32 f_.Source.B.re f_.Source.B.im), .d (.cx .f32 f_.Source.C.re f_.Source.C.im), .d (.sl false (f_.Buses.map eSBus))], .row 1 (([] : List Int).map eInti64)]) rfl (by simp) rfl (by repeat' first | exact trivial | refine ⟨?_, ?_⟩) ⟨rfl, trivial, rfl, trivial, rfl, trivial, rfl, trivial, rfl, trivial, trivial⟩) ?_
  rintro ⟨m21, v14, v15⟩ h
  replace h : m_impl_Feeder_children_l1 n f_ bus_ m21 v14 v15 = some r := h
  rcases m21 with _ | m21
  · rw [m_impl_Feeder_children_l1] at h; cases h
  rw [m_impl_Feeder_children_l1] at h
  refine aw_seq ?_
  refine aw_region ?_
  refine awl_val hτ rfl rfl rfl ?_
  refine awl_nil ?_
  refine aw_seq ?_
  refine aw_cond rfl (fun hc23 => ?_) (fun hc23 => ?_)
  · have h := if_t h hc23
    refine aw_skip ?_
    refine aw_hk1 (ι := List Int) (fun v27 => St.of [(1, .d (.int .i64 bus_)), (5, .row 1 v27.length 0 v27.length), (12, .d (.sl false (f_.Buses.map eSBus))), (13, .d (.int .i64 (f_.Buses.length : Int))), (14, .d (.int .i64 v15))] [.box [.d (.cx .f32 f_.Source.A.re f_.Source.A.im), .d (.cx .f32 f_.Source.B.re f_.Source.B.im), .d (.cx .f32 f_.Source.C.re f_.Source.C.im), .d (.sl false (f_.Buses.map eSBus))], .row 1 (v27.map eInti64)] f82.ntmps 1) (fun v27 => m_impl_Feeder_children_j2 n (m_impl_Feeder_children_l1 n f_ bus_ m21) v15 v27 = some r) ?_ (fun hk28 => ?_)
    · rintro v27 h
      replace h : m_impl_Feeder_children_j2 n (m_impl_Feeder_children_l1 n f_ bus_ m21) v15 v27 = some r := h
      unfold m_impl_Feeder_children_j2 at h
      refine aw_region ?_
      refine awl_val hτ rfl rfl rfl ?_
      refine awl_val hτ rfl rfl rfl ?_
      refine awl_nil ?_
      exact ⟨(m21, v27, (w64 (v15 + (1 : Int)))), h, Nat.lt_succ_self m21, (weak_ofP [0, 1] (l := [(1, .d (.int .i64 bus_)), (5, .row 1 v27.length 0 v27.length), (12, .d (.sl false (f_.Buses.map eSBus))), (13, .d (.int .i64 (f_.Buses.length : Int))), (14, .d (.int .i64 (w64 (v15 + (1 : Int)))))]) (objs := [.box [.d (.cx .f32 f_.Source.A.re f_.Source.A.im), .d (.cx .f32 f_.Source.B.re f_.Source.B.im), .d (.cx .f32 f_.Source.C.re f_.Source.C.im), .d (.sl false (f_.Buses.map eSBus))], .row 1 (v27.map eInti64)]) rfl (by simp) rfl (by repeat' first | exact trivial | refine ⟨?_, ?_⟩) ⟨rfl, trivial, rfl, trivial, rfl, trivial, rfl, trivial, rfl, trivial, trivial⟩)⟩
    · refine aw_seq ?_
      refine aw_block ?_
      refine aw_seq ?_
      refine aw_region ?_
      refine awl_val hτ rfl rfl rfl ?_
      refine bnd_elim h fun x29 hx29 h => ?_
      refine awl_elem hτ rfl rfl rfl (getI_some hx29).1 (map_getI hx29) rfl ?_
      refine awl_val hτ rfl rfl rfl ?_
      refine awl_valH hτ rfl rfl rfl ?_
      refine awl_val hτ rfl rfl rfl ?_
      refine awl_valH hτ rfl rfl rfl ?_
      refine awl_nil ?_
      refine aw_seq ?_
      refine aw_weak (weak_ofP [0, 1, 2] (l := [(1, .d (.int .i64 bus_)), (5, .row 1 v14.length 0 v14.length), (6, .d (.int .i64 v15)), (7, .ptr 2 0), (12, .d (.sl false (f_.Buses.map eSBus))), (13, .d (.int .i64 (f_.Buses.length : Int))), (14, .d (.int .i64 v15))]) (objs := [.box [.d (.cx .f32 f_.Source.A.re f_.Source.A.im), .d (.cx .f32 f_.Source.B.re f_.Source.B.im), .d (.cx .f32 f_.Source.C.re f_.Source.C.im), .d (.sl false (f_.Buses.map eSBus))], .row 1 (v14.map eInti64), .box [.d (.int .i64 x29.Parent), .d (.cx .f32 x29.Own.re x29.Own.im), .d (.cx .f32 x29.Shared.re x29.Shared.im), .d (.int .i64 x29.Kind), .d (.cx .f32 x29.Load.A.re x29.Load.A.im), .d (.cx .f32 x29.Load.B.re x29.Load.B.im), .d (.cx .f32 x29.Load.C.re x29.Load.C.im), .d (.int .i64 x29.Customers)]]) rfl (by simp) rfl (by repeat' first | exact trivial | refine ⟨?_, ?_⟩) ⟨rfl, trivial, rfl, trivial, rfl, trivial, rfl, trivial, rfl, trivial, rfl, trivial, rfl, trivial, trivial⟩) ?_
      refine aw_region ?_
      refine awl_val hτ rfl rfl rfl ?_
      refine awl_val hτ rfl rfl rfl ?_
      refine awl_val hτ rfl rfl rfl ?_
      refine awl_val hτ (v := .d (.bool (decide (x29.Parent = bus_)))) rfl rfl (or_ieq _ _) ?_
      refine awl_nil ?_
      refine aw_cond rfl (fun hc30 => ?_) (fun hc30 => ?_)
      · have h := if_t h hc30
        refine aw_region ?_
        refine awl_val hτ rfl rfl rfl ?_
        refine awl_val hτ rfl rfl rfl ?_
        refine awl_valH hτ rfl rfl rfl ?_
        refine grd_elim h fun hg31 h => ?_
        refine awl_needH hτ rfl rfl (Eq.trans rfl (or_append (f := eInti64) v14 [v15] rfl)) ⟨⟨rfl, by decide⟩, len_map _, rfl, rfl, hg31, by decide, (all1 rfl)⟩ ?_
        refine awl_val hτ rfl rfl rfl ?_
        refine awl_nil ?_
        refine aw_weak (weak_ofP [0, 1] (l := [(1, .d (.int .i64 bus_)), (5, .row 1 ((v14 ++ [v15]).length) 0 ((v14 ++ [v15]).length)), (12, .d (.sl false (f_.Buses.map eSBus))), (13, .d (.int .i64 (f_.Buses.length : Int))), (14, .d (.int .i64 v15))]) (objs := [.box [.d (.cx .f32 f_.Source.A.re f_.Source.A.im), .d (.cx .f32 f_.Source.B.re f_.Source.B.im), .d (.cx .f32 f_.Source.C.re f_.Source.C.im), .d (.sl false (f_.Buses.map eSBus))], .row 1 ((v14 ++ [v15]).map eInti64)]) rfl (by simp) rfl (by repeat' first | exact trivial | refine ⟨?_, ?_⟩) ⟨rfl, trivial, rfl, trivial, rfl, trivial, rfl, trivial, rfl, trivial, trivial⟩) ?_
        exact hk28 (v14 ++ [v15]) h
      · have h := if_f h hc30
        refine aw_skip ?_
        refine aw_weak (weak_ofP [0, 1] (l := [(1, .d (.int .i64 bus_)), (5, .row 1 v14.length 0 v14.length), (12, .d (.sl false (f_.Buses.map eSBus))), (13, .d (.int .i64 (f_.Buses.length : Int))), (14, .d (.int .i64 v15))]) (objs := [.box [.d (.cx .f32 f_.Source.A.re f_.Source.A.im), .d (.cx .f32 f_.Source.B.re f_.Source.B.im), .d (.cx .f32 f_.Source.C.re f_.Source.C.im), .d (.sl false (f_.Buses.map eSBus))], .row 1 (v14.map eInti64)]) rfl (by simp) rfl (by repeat' first | exact trivial | refine ⟨?_, ?_⟩) ⟨rfl, trivial, rfl, trivial, rfl, trivial, rfl, trivial, rfl, trivial, trivial⟩) ?_
        exact hk28 v14 h
  · have h := if_f h hc23
    refine aw_exit ?_
    refine aw_seq ?_
    refine aw_region ?_
    refine awl_val hτ rfl rfl rfl ?_
    refine awl_val hτ rfl rfl rfl ?_
    refine awl_nil ?_
    refine aw_weak (weak_ofP [0, 1] (l := [(4, .row 1 v14.length 0 v14.length)]) (objs := [.box [.d (.cx .f32 f_.Source.A.re f_.Source.A.im), .d (.cx .f32 f_.Source.B.re f_.Source.B.im), .d (.cx .f32 f_.Source.C.re f_.Source.C.im), .d (.sl false (f_.Buses.map eSBus))], .row 1 (v14.map eInti64)]) rfl (by simp) rfl (by repeat' first | exact trivial | refine ⟨?_, ?_⟩) ⟨rfl, trivial, trivial⟩) ?_
    refine aw_ret ?_
    have hr := Option.some.inj h
    subst hr
    exact ret_objs (.inr rfl) [1] (objs' := [.box [.d (.cx .f32 f_.Source.A.re f_.Source.A.im), .d (.cx .f32 f_.Source.B.re f_.Source.B.im), .d (.cx .f32 f_.Source.C.re f_.Source.C.im), .d (.sl false (f_.Buses.map eSBus))]]) (new := [.row 1 (v14.map eInti64)]) rfl (by simp) (by simp) rfl (by repeat' first | exact trivial | refine ⟨?_, ?_⟩) rfl rfl (by repeat' first | exact trivial | refine ⟨?_, ?_⟩) (fun h => nomatch h) ⟨rfl, rfl, rfl⟩

def m_impl_ChildrenOf (n : Nat) (f_ : SFeeder) (bus_ : Int) : Option (List Int × Bool) :=
  (m_impl_Feeder_has n f_ bus_).bind fun x4 =>
  if x4 = true then
    (m_impl_Feeder_children n f_ bus_).bind fun x6 =>
    some (x6, true)
  else
    some (([] : List Int), false)
theorem impl_ChildrenOf_ok_fr0 (fr : Bool) (n : Nat) (f_ : SFeeder) (bus_ : Int) {r : List Int × Bool} (h : m_impl_ChildrenOf n f_ bus_ = some r) : ACall prog fr 17 [.agg [.d (.cx .f32 f_.Source.A.re f_.Source.A.im), .d (.cx .f32 f_.Source.B.re f_.Source.B.im), .d (.cx .f32 f_.Source.C.re f_.Source.C.im), .d (.sl false (f_.Buses.map eSBus))], .d (.int .i64 bus_)] [] (fun v o new => v = .tup [.row 0 r.1.length 0 r.1.length, .d (.bool r.2)] ∧ o = [] ∧ new = [.row 1 (r.1.map eInti64)]) := by
  refine acall_of_aw hτ func17 rfl (by simp) (by simp) ?_
  unfold m_impl_ChildrenOf at h
  refine aw_seq ?_
  refine aw_region ?_
  refine awl_valH hτ rfl rfl rfl ?_
  refine awl_val hτ rfl rfl rfl ?_
  refine awl_val hτ rfl rfl rfl ?_
  refine awl_nil ?_
  refine aw_seq ?_
  refine aw_seq ?_
  refine aw_region ?_
  refine awl_val hτ rfl rfl rfl ?_
  refine bnd_elim h fun x4 hx4 h => ?_
  refine awl_callP hτ false [0] rfl rfl rfl (enterOk func79 rfl rfl) rfl rfl (by simp) ⟨trivial, trivial, trivial⟩ (by repeat' first | exact trivial | refine ⟨?_, ?_⟩) (impl_Feeder_has_ok n f_ bus_ hx4) ?_
  rintro r0 o0 n0 ⟨rfl, rfl, rfl⟩ -
  refine awl_val hτ rfl rfl rfl ?_
  refine awl_nil ?_
  refine aw_weak (weak_ofP [0] (l := [(1, .d (.int .i64 bus_)), (2, .ptr 0 0), (8, .d (.bool (!x4)))]) (objs := [.box [.d (.cx .f32 f_.Source.A.re f_.Source.A.im), .d (.cx .f32 f_.Source.B.re f_.Source.B.im), .d (.cx .f32 f_.Source.C.re f_.Source.C.im), .d (.sl false (f_.Buses.map eSBus))]]) rfl (by simp) rfl (by repeat' first | exact trivial | refine ⟨?_, ?_⟩) ⟨rfl, trivial, rfl, trivial, rfl, trivial, trivial⟩) ?_
  refine aw_cond rfl (fun hc5 => ?_) (fun hc5 => ?_)
  · have hc5 := not_t hc5
    have h := if_bf h hc5
    refine aw_seq ?_
    refine aw_region ?_
    refine awl_val hτ rfl rfl rfl ?_
    refine awl_val hτ rfl rfl rfl ?_
    refine awl_nil ?_
    refine aw_weak (weak_ofP [] (l := [(4, .d (.nils)), (5, .d (.bool false))]) (objs := []) rfl (by simp) rfl (by repeat' first | exact trivial | refine ⟨?_, ?_⟩) ⟨rfl, trivial, rfl, trivial, trivial⟩) ?_
    refine aw_weak (weak_relax [1] (l' := [(4, .row 0 (([] : List Int).length) 0 (([] : List Int).length)), (5, .d (.bool false))]) (objs' := []) (.cons (.c (.ghost ⟨Nat.le_of_ble_eq_true rfl, Nat.le_of_ble_eq_true rfl⟩)) (.cons (.c (.refl _)) .nil)) .nil) ?_
    refine aw_ret ?_
    have hr := Option.some.inj h
    subst hr
    exact ret_objs (.inr rfl) [0] (objs' := []) (new := [.row 1 (([] : List Int).map eInti64)]) rfl (by simp) (by simp) rfl (by repeat' first | exact trivial | refine ⟨?_, ?_⟩) rfl rfl (by repeat' first | exact trivial | refine ⟨?_, ?_⟩) (fun _ => ⟨by simp [V.flat, V.flatA, V.flatC, D.flat], (flat_cons (flat_row eInti64_flat _) flat_nil)⟩) ⟨rfl, rfl, rfl⟩
  · have hc5 := not_f hc5
    have h := if_bt h hc5
    refine aw_skip ?_
    refine aw_seq ?_
    refine aw_region ?_
    refine awl_val hτ rfl rfl rfl ?_
    refine bnd_elim h fun x6 hx6 h => ?_
    refine awl_callP hτ false [0] rfl rfl rfl (enterOk func82 rfl rfl) rfl rfl (by simp) ⟨trivial, trivial, trivial⟩ (by repeat' first | exact trivial | refine ⟨?_, ?_⟩) (impl_Feeder_children_ok n f_ bus_ hx6) ?_
    rintro r0 o0 n0 ⟨rfl, rfl, rfl⟩ -
    refine awl_val hτ rfl rfl rfl ?_
    refine awl_val hτ rfl rfl rfl ?_
    refine awl_nil ?_
    refine aw_weak (weak_ofP [1] (l := [(4, .row 0 x6.length 0 x6.length), (5, .d (.bool true))]) (objs := [.row 1 (x6.map eInti64)]) rfl (by simp) rfl (by repeat' first | exact trivial | refine ⟨?_, ?_⟩) ⟨rfl, trivial, rfl, trivial, trivial⟩) ?_
    refine aw_ret ?_
    have hr := Option.some.inj h
    subst hr
    exact ret_objs (.inr rfl) [0] (objs' := []) (new := [.row 1 (x6.map eInti64)]) rfl (by simp) (by simp) rfl (by repeat' first | exact trivial | refine ⟨?_, ?_⟩) rfl rfl (by repeat' first | exact trivial | refine ⟨?_, ?_⟩) (fun _ => ⟨by simp [V.flat, V.flatA, V.flatC, D.flat], (flat_cons (flat_row eInti64_flat _) flat_nil)⟩) ⟨rfl, rfl, rfl⟩
theorem impl_ChildrenOf_ok (n : Nat) (f_ : SFeeder) (bus_ : Int) {r : List Int × Bool} (h : m_impl_ChildrenOf n f_ bus_ = some r) : ACall prog false 17 [.agg [.d (.cx .f32 f_.Source.A.re f_.Source.A.im), .d (.cx .f32 f_.Source.B.re f_.Source.B.im), .d (.cx .f32 f_.Source.C.re f_.Source.C.im), .d (.sl false (f_.Buses.map eSBus))], .d (.int .i64 bus_)] [] (fun v o new => v = .tup [.row 0 r.1.length 0 r.1.length, .d (.bool r.2)] ∧ o = [] ∧ new = [.row 1 (r.1.map eInti64)]) := impl_ChildrenOf_ok_fr0 false n f_ bus_ h
theorem impl_ChildrenOf_ok_fr (n : Nat) (f_ : SFeeder) (bus_ : Int) {r : List Int × Bool} (h : m_impl_ChildrenOf n f_ bus_ = some r) : ACall prog true 17 [.agg [.d (.cx .f32 f_.Source.A.re f_.Source.A.im), .d (.cx .f32 f_.Source.B.re f_.Source.B.im), .d (.cx .f32 f_.Source.C.re f_.Source.C.im), .d (.sl false (f_.Buses.map eSBus))], .d (.int .i64 bus_)] [] (fun v o new => v = .tup [.row 0 r.1.length 0 r.1.length, .d (.bool r.2)] ∧ o = [] ∧ new = [.row 1 (r.1.map eInti64)]) := impl_ChildrenOf_ok_fr0 true n f_ bus_ h

def m_impl_DepthOf_l1 (n : Nat) (f_ : SFeeder) : Nat → Int → Int → Option (Int × Bool)
  | 0, _, _ => none
  | m17 + 1, v12, v13 =>
    if v13 < (f_.Buses.length : Int) then
      (m_impl_Feeder_path n f_ v13).bind fun x20 =>
      (m_impl_DepthOf_l1 n f_ m17) (if (x20.length : Int) > v12 then (x20.length : Int) else v12) (w64 (v13 + (1 : Int)))
    else
      some (v12, true)
def m_impl_DepthOf (n : Nat) (f_ : SFeeder) : Option (Int × Bool) :=
  (m_impl_ValidFeeder n f_).bind fun x9 =>
  if x9 = true then
    m_impl_DepthOf_l1 n f_ n (0 : Int) (0 : Int)
  else
    some ((0 : Int), false)
theorem impl_DepthOf_ok_fr0 (fr : Bool) (n : Nat) (f_ : SFeeder) {r : Int × Bool} (h : m_impl_DepthOf n f_ = some r) : ACall prog fr 18 [.agg [.d (.cx .f32 f_.Source.A.re f_.Source.A.im), .d (.cx .f32 f_.Source.B.re f_.Source.B.im), .d (.cx .f32 f_.Source.C.re f_.Source.C.im), .d (.sl false (f_.Buses.map eSBus))]] [] (fun v o new => v = .tup [.d (.int .i64 r.1), .d (.bool r.2)] ∧ o = [] ∧ new = []) := by
  refine acall_of_aw hτ func18 rfl (by simp) (by simp) ?_
  unfold m_impl_DepthOf at h
  refine aw_seq ?_
  refine aw_region ?_
  refine awl_valH hτ rfl rfl rfl ?_
  refine awl_val hτ rfl rfl rfl ?_
  refine awl_val hτ rfl rfl rfl ?_
  refine awl_nil ?_
  refine aw_seq ?_
  refine aw_seq ?_
  refine aw_region ?_
  refine awl_val hτ rfl rfl rfl ?_
  refine bnd_elim h fun x9 hx9 h => ?_
  refine awl_callP hτ false [] rfl rfl rfl (enterOk func20 rfl rfl) rfl rfl (by simp) ⟨(by repeat' first | exact trivial | refine ⟨?_, ?_⟩), trivial⟩ (by repeat' first | exact trivial | refine ⟨?_, ?_⟩) (impl_ValidFeeder_ok n f_ hx9) ?_
  rintro r0 o0 n0 ⟨rfl, rfl, rfl⟩ -
  refine awl_val hτ rfl rfl rfl ?_
  refine awl_nil ?_
  refine aw_weak (weak_ofP [0] (l := [(1, .ptr 0 0), (8, .d (.bool (!x9)))]) (objs := [.box [.d (.cx .f32 f_.Source.A.re f_.Source.A.im), .d (.cx .f32 f_.Source.B.re f_.Source.B.im), .d (.cx .f32 f_.Source.C.re f_.Source.C.im), .d (.sl false (f_.Buses.map eSBus))]]) rfl (by simp) rfl (by repeat' first | exact trivial | refine ⟨?_, ?_⟩) ⟨rfl, trivial, rfl, trivial, trivial⟩) ?_
  refine aw_cond rfl (fun hc10 => ?_) (fun hc10 => ?_)
  · have hc10 := not_t hc10
    have h := if_bf h hc10
    refine aw_seq ?_
    refine aw_region ?_
    refine awl_val hτ rfl rfl rfl ?_
    refine awl_val hτ rfl rfl rfl ?_
    refine awl_nil ?_
    refine aw_weak (weak_ofP [] (l := [(2, .d (.int .i64 (0 : Int))), (3, .d (.bool false))]) (objs := []) rfl (by simp) rfl (by repeat' first | exact trivial | refine ⟨?_, ?_⟩) ⟨rfl, trivial, rfl, trivial, trivial⟩) ?_
    refine aw_ret ?_
    have hr := Option.some.inj h
    subst hr
    exact ret_objs (.inr rfl) [] (objs' := []) (new := []) rfl (by simp) (by simp) rfl (by repeat' first | exact trivial | refine ⟨?_, ?_⟩) rfl rfl (by repeat' first | exact trivial | refine ⟨?_, ?_⟩) (fun _ => ⟨by simp [V.flat, V.flatA, V.flatC, D.flat], flat_nil⟩) ⟨rfl, rfl, rfl⟩
  · have hc10 := not_f hc10
    have h := if_bt h hc10
    refine aw_skip ?_
    refine aw_seq ?_
    refine aw_region ?_
    refine awl_val hτ rfl rfl rfl ?_
    refine awl_nil ?_
    refine aw_seq ?_
    refine aw_seq ?_
    refine aw_region ?_
    refine awl_val hτ rfl rfl rfl ?_
    refine awl_val hτ rfl rfl rfl ?_
    refine awl_val hτ (v := .d (.int .i64 (f_.Buses.length : Int))) rfl rfl (Eq.trans rfl (or_len (f := eSBus) f_.Buses)) ?_
    refine awl_val hτ rfl rfl rfl ?_
    refine awl_nil ?_
    refine aw_block ?_
    refine aw_loop (ι := Nat × Int × Int) (fun (m17, v12, v13) => St.of [(1, .ptr 0 0), (4, .d (.int .i64 v12)), (11, .d (.int .i64 (f_.Buses.length : Int))), (12, .d (.int .i64 v13))] [.box [.d (.cx .f32 f_.Source.A.re f_.Source.A.im), .d (.cx .f32 f_.Source.B.re f_.Source.B.im), .d (.cx .f32 f_.Source.C.re f_.Source.C.im), .d (.sl false (f_.Buses.map eSBus))]] f18.ntmps 0) (fun (m17, v12, v13) => m_impl_DepthOf_l1 n f_ m17 v12 v13 = some r) (fun x => x.1) (n, (0 : Int), (0 : Int)) h (weak_ofP [0] (l := [(1, .ptr 0 0), (4, .d (.int .i64 (0 : Int))), (11, .d (.int .i64 (f_.Buses.length : Int))), (12, .d (.int .i64 (0 : Int)))]) (objs := [.box [.d (.cx .f32 f_.Source.A.re f_.Source.A.im), .d (.cx .f32 f_.Source.B.re f_.Source.B.im), .d (.cx .f32 f_.Source.C.re f_.Source.C.im), .d (.sl false (f_.Buses.map eSBus))]]) rfl (by simp) rfl (by repeat' first | exact trivial | refine ⟨?_, ?_⟩) ⟨rfl, trivial, rfl, trivial, rfl, trivial, rfl, trivial, trivial⟩) ?_
    rintro ⟨m17, v12, v13⟩ h
    replace h : m_impl_DepthOf_l1 n f_ m17 v12 v13 = some r := h
    rcases m17 with _ | m17
    · rw [m_impl_DepthOf_l1] at h; cases h
    rw [m_impl_DepthOf_l1] at h
    refine aw_seq ?_
    refine aw_region ?_
    refine awl_val hτ rfl rfl rfl ?_
    refine awl_nil ?_
    refine aw_seq ?_
    refine aw_cond rfl (fun hc19 => ?_) (fun hc19 => ?_)
    · have h := if_t h hc19
      refine aw_skip ?_
      refine aw_seq ?_
      refine aw_block ?_
      refine aw_seq ?_
      refine aw_region ?_
      refine awl_val hτ rfl rfl rfl ?_
      refine awl_val hτ rfl rfl rfl ?_
      refine awl_nil ?_
      refine aw_region ?_
      refine awl_val hτ rfl rfl rfl ?_
      refine awl_val hτ rfl rfl rfl ?_
      refine bnd_elim h fun x20 hx20 h => ?_
      refine awl_callP hτ false [0] rfl rfl rfl (enterOk func80 rfl rfl) rfl rfl (by simp) ⟨trivial, trivial, trivial⟩ (by repeat' first | exact trivial | refine ⟨?_, ?_⟩) (impl_Feeder_path_ok n f_ v13 hx20) ?_
      rintro r0 o0 n0 ⟨rfl, rfl, rfl⟩ -
      refine awl_need hτ rfl rfl rfl (len_map _) ?_
      refine awl_val hτ rfl rfl rfl ?_
      refine awl_val hτ rfl rfl rfl ?_
      refine awl_nil ?_
      refine aw_weak (weak_ofP [0] (l := [(1, .ptr 0 0), (4, .d (.int .i64 (if (x20.length : Int) > v12 then (x20.length : Int) else v12))), (11, .d (.int .i64 (f_.Buses.length : Int))), (12, .d (.int .i64 v13))]) (objs := [.box [.d (.cx .f32 f_.Source.A.re f_.Source.A.im), .d (.cx .f32 f_.Source.B.re f_.Source.B.im), .d (.cx .f32 f_.Source.C.re f_.Source.C.im), .d (.sl false (f_.Buses.map eSBus))]]) rfl (by simp) rfl (by repeat' first | exact trivial | refine ⟨?_, ?_⟩) ⟨rfl, trivial, rfl, trivial, rfl, trivial, rfl, trivial, trivial⟩) ?_
      refine aw_region ?_
      refine awl_val hτ rfl rfl rfl ?_
      refine awl_val hτ rfl rfl rfl ?_
      refine awl_nil ?_
      exact ⟨(m17, (if (x20.length : Int) > v12 then (x20.length : Int) else v12), (w64 (v13 + (1 : Int)))), h, Nat.lt_succ_self m17, (weak_ofP [0] (l := [(1, .ptr 0 0), (4, .d (.int .i64 (if (x20.length : Int) > v12 then (x20.length : Int) else v12))), (11, .d (.int .i64 (f_.Buses.length : Int))), (12, .d (.int .i64 (w64 (v13 + (1 : Int)))))]) (objs := [.box [.d (.cx .f32 f_.Source.A.re f_.Source.A.im), .d (.cx .f32 f_.Source.B.re f_.Source.B.im), .d (.cx .f32 f_.Source.C.re f_.Source.C.im), .d (.sl false (f_.Buses.map eSBus))]]) rfl (by simp) rfl (by repeat' first | exact trivial | refine ⟨?_, ?_⟩) ⟨rfl, trivial, rfl, trivial, rfl, trivial, rfl, trivial, trivial⟩)⟩
    · have h := if_f h hc19
      refine aw_exit ?_
      refine aw_seq ?_
      refine aw_region ?_
      refine awl_val hτ rfl rfl rfl ?_
      refine awl_val hτ rfl rfl rfl ?_
      refine awl_val hτ rfl rfl rfl ?_
      refine awl_nil ?_
      refine aw_weak (weak_ofP [] (l := [(2, .d (.int .i64 v12)), (3, .d (.bool true))]) (objs := []) rfl (by simp) rfl (by repeat' first | exact trivial | refine ⟨?_, ?_⟩) ⟨rfl, trivial, rfl, trivial, trivial⟩) ?_
      refine aw_ret ?_
      have hr := Option.some.inj h
      subst hr
      exact ret_objs (.inr rfl) [] (objs' := []) (new := []) rfl (by simp) (by simp) rfl (by repeat' first | exact trivial | refine ⟨?_, ?_⟩) rfl rfl (by repeat' first | exact trivial | refine ⟨?_, ?_⟩) (fun _ => ⟨by simp [V.flat, V.flatA, V.flatC, D.flat], flat_nil⟩) ⟨rfl, rfl, rfl⟩
theorem impl_DepthOf_ok (n : Nat) (f_ : SFeeder) {r : Int × Bool} (h : m_impl_DepthOf n f_ = some r) : ACall prog false 18 [.agg [.d (.cx .f32 f_.Source.A.re f_.Source.A.im), .d (.cx .f32 f_.Source.B.re f_.Source.B.im), .d (.cx .f32 f_.Source.C.re f_.Source.C.im), .d (.sl false (f_.Buses.map eSBus))]] [] (fun v o new => v = .tup [.d (.int .i64 r.1), .d (.bool r.2)] ∧ o = [] ∧ new = []) := impl_DepthOf_ok_fr0 false n f_ h
theorem impl_DepthOf_ok_fr (n : Nat) (f_ : SFeeder) {r : Int × Bool} (h : m_impl_DepthOf n f_ = some r) : ACall prog true 18 [.agg [.d (.cx .f32 f_.Source.A.re f_.Source.A.im), .d (.cx .f32 f_.Source.B.re f_.Source.B.im), .d (.cx .f32 f_.Source.C.re f_.Source.C.im), .d (.sl false (f_.Buses.map eSBus))]] [] (fun v o new => v = .tup [.d (.int .i64 r.1), .d (.bool r.2)] ∧ o = [] ∧ new = []) := impl_DepthOf_ok_fr0 true n f_ h

def m_impl_Feeder_customers_l1 (n : Nat) (f_ : SFeeder) (buses_ : List Int) : Nat → Int → Int → Option Int
  | 0, _, _ => none
  | m17 + 1, v11, v12 =>
    if v12 < (buses_.length : Int) then
      (getI buses_ v12).bind fun x20 =>
      (getI f_.Buses x20).bind fun x21 =>
      (m_impl_Feeder_customers_l1 n f_ buses_ m17) (w64 (v11 + x21.Customers)) (w64 (v12 + (1 : Int)))
    else
      some v11
def m_impl_Feeder_customers (n : Nat) (f_ : SFeeder) (buses_ : List Int) : Option Int :=
  m_impl_Feeder_customers_l1 n f_ buses_ n (0 : Int) (0 : Int)
theorem impl_Feeder_customers_ok (n : Nat) (f_ : SFeeder) (buses_ : List Int) {r : Int} (h : m_impl_Feeder_customers n f_ buses_ = some r) : ACall prog false 83 [.ptr 0 0, .d (.sl false (buses_.map eInti64))] [.box [.d (.cx .f32 f_.Source.A.re f_.Source.A.im), .d (.cx .f32 f_.Source.B.re f_.Source.B.im), .d (.cx .f32 f_.Source.C.re f_.Source.C.im), .d (.sl false (f_.Buses.map eSBus))]] (fun v o new => v = .d (.int .i64 r) ∧ o = [.box [.d (.cx .f32 f_.Source.A.re f_.Source.A.im), .d (.cx .f32 f_.Source.B.re f_.Source.B.im), .d (.cx .f32 f_.Source.C.re f_.Source.C.im), .d (.sl false (f_.Buses.map eSBus))]] ∧ new = []) := by
  refine acall_of_aw hτ func83 rfl (by simp) (by simp) ?_
  unfold m_impl_Feeder_customers at h
  refine aw_seq ?_
  refine aw_region ?_
  refine awl_val hτ rfl rfl rfl ?_
  refine awl_nil ?_
  refine aw_seq ?_
  refine aw_region ?_
  refine awl_val hτ rfl rfl rfl ?_
  refine awl_nil ?_
  refine aw_seq ?_
  refine aw_seq ?_
  refine aw_region ?_
  refine awl_val hτ rfl rfl rfl ?_
  refine awl_val hτ (v := .d (.int .i64 (buses_.length : Int))) rfl rfl (Eq.trans rfl (or_len (f := eInti64) buses_)) ?_
  refine awl_val hτ rfl rfl rfl ?_
  refine awl_nil ?_
  refine aw_block ?_
  refine aw_loop (ι := Nat × Int × Int) (fun (m17, v11, v12) => St.of [(0, .ptr 0 0), (5, .d (.int .i64 v11)), (8, .d (.sl false (buses_.map eInti64))), (9, .d (.int .i64 (buses_.length : Int))), (10, .d (.int .i64 v12))] [.box [.d (.cx .f32 f_.Source.A.re f_.Source.A.im), .d (.cx .f32 f_.Source.B.re f_.Source.B.im), .d (.cx .f32 f_.Source.C.re f_.Source.C.im), .d (.sl false (f_.Buses.map eSBus))]] f83.ntmps 1) (fun (m17, v11, v12) => m_impl_Feeder_customers_l1 n f_ buses_ m17 v11 v12 = some r) (fun x => x.1) (n, (0 : Int), (0 : Int)) h (weak_ofP [0] (l := [(0, .ptr 0 0), (5, .d (.int .i64 (0 : Int))), (8, .d (.sl false (buses_.map eInti64))), (9, .d (.int .i64 (buses_.length : Int))), (10, .d (.int .i64 (0 : Int)))]) (objs := [.box [.d (.cx .f32 f_.Source.A.re f_.Source.A.im), .d (.cx .f32 f_.Source.B.re f_.Source.B.im), .d (.cx .f32 f_.Source.C.re f_.Source.C.im), .d (.sl false (f_.Buses.map eSBus))]]) rfl (by simp) rfl (by repeat' first | exact trivial | refine ⟨?_, ?_⟩) ⟨rfl, trivial, rfl, trivial, rfl, trivial, rfl, trivial, rfl, trivial, trivial⟩) ?_
  rintro ⟨m17, v11, v12⟩ h
  replace h : m_impl_Feeder_customers_l1 n f_ buses_ m17 v11 v12 = some r := h
  rcases m17 with _ | m17
  · rw [m_impl_Feeder_customers_l1] at h; cases h
  rw [m_impl_Feeder_customers_l1] at h
  refine aw_seq ?_
  refine aw_region ?_
  refine awl_val hτ rfl rfl rfl ?_
  refine awl_nil ?_
  refine aw_seq ?_
  refine aw_cond rfl (fun hc19 => ?_) (fun hc19 => ?_)
  · have h := if_t h hc19
    refine aw_skip ?_
    refine aw_seq ?_
    refine aw_block ?_
    refine aw_seq ?_
    refine aw_region ?_
    refine bnd_elim h fun x20 hx20 h => ?_
    refine awl_elem hτ rfl rfl rfl (getI_some hx20).1 (map_getI hx20) rfl ?_
    refine awl_val hτ rfl rfl rfl ?_
    refine awl_val hτ rfl rfl rfl ?_
    refine awl_nil ?_
    refine aw_region ?_
    refine awl_val hτ rfl rfl rfl ?_
    refine awl_val hτ rfl rfl rfl ?_
    refine awl_val hτ rfl rfl rfl ?_
    refine awl_val hτ rfl rfl rfl ?_
    refine awl_val hτ rfl rfl rfl ?_
    refine awl_val hτ rfl rfl rfl ?_
    refine bnd_elim h fun x21 hx21 h => ?_
    refine awl_elem hτ rfl rfl rfl (getI_some hx21).1 (map_getI hx21) rfl ?_
    refine awl_val hτ rfl rfl rfl ?_
    refine awl_weak (weak_ofP [0] (l := [(0, .ptr 0 0), (5, .d (.int .i64 v11)), (8, .d (.sl false (buses_.map eInti64))), (9, .d (.int .i64 (buses_.length : Int))), (10, .d (.int .i64 v12)), (14, .d (.int .i64 v11)), (21, .rop [.int .i64 x21.Parent, .cx .f32 x21.Own.re x21.Own.im, .cx .f32 x21.Shared.re x21.Shared.im, .int .i64 x21.Kind, .cx .f32 x21.Load.A.re x21.Load.A.im, .cx .f32 x21.Load.B.re x21.Load.B.im, .cx .f32 x21.Load.C.re x21.Load.C.im, .int .i64 x21.Customers] 7)]) (objs := [.box [.d (.cx .f32 f_.Source.A.re f_.Source.A.im), .d (.cx .f32 f_.Source.B.re f_.Source.B.im), .d (.cx .f32 f_.Source.C.re f_.Source.C.im), .d (.sl false (f_.Buses.map eSBus))]]) rfl (by simp) rfl (by repeat' first | exact trivial | refine ⟨?_, ?_⟩) ⟨rfl, trivial, rfl, trivial, rfl, trivial, rfl, trivial, rfl, trivial, rfl, trivial, rfl, trivial, trivial⟩) ?_
    refine awl_val hτ rfl rfl rfl ?_
    refine awl_val hτ rfl rfl rfl ?_
    refine awl_val hτ rfl rfl rfl ?_
    refine awl_nil ?_
    refine aw_region ?_
    refine awl_val hτ rfl rfl rfl ?_
    refine awl_val hτ rfl rfl rfl ?_
    refine awl_nil ?_
    exact ⟨(m17, (w64 (v11 + x21.Customers)), (w64 (v12 + (1 : Int)))), h, Nat.lt_succ_self m17, (weak_ofP [0] (l := [(0, .ptr 0 0), (5, .d (.int .i64 (w64 (v11 + x21.Customers)))), (8, .d (.sl false (buses_.map eInti64))), (9, .d (.int .i64 (buses_.length : Int))), (10, .d (.int .i64 (w64 (v12 + (1 : Int)))))]) (objs := [.box [.d (.cx .f32 f_.Source.A.re f_.Source.A.im), .d (.cx .f32 f_.Source.B.re f_.Source.B.im), .d (.cx .f32 f_.Source.C.re f_.Source.C.im), .d (.sl false (f_.Buses.map eSBus))]]) rfl (by simp) rfl (by repeat' first | exact trivial | refine ⟨?_, ?_⟩) ⟨rfl, trivial, rfl, trivial, rfl, trivial, rfl, trivial, rfl, trivial, trivial⟩)⟩
  · have h := if_f h hc19
    refine aw_exit ?_
    refine aw_seq ?_
    refine aw_region ?_
    refine awl_val hτ rfl rfl rfl ?_
    refine awl_val hτ rfl rfl rfl ?_
    refine awl_nil ?_
    refine aw_weak (weak_ofP [0] (l := [(4, .d (.int .i64 v11))]) (objs := [.box [.d (.cx .f32 f_.Source.A.re f_.Source.A.im), .d (.cx .f32 f_.Source.B.re f_.Source.B.im), .d (.cx .f32 f_.Source.C.re f_.Source.C.im), .d (.sl false (f_.Buses.map eSBus))]]) rfl (by simp) rfl (by repeat' first | exact trivial | refine ⟨?_, ?_⟩) ⟨rfl, trivial, trivial⟩) ?_
    refine aw_ret ?_
    have hr := Option.some.inj h
    subst hr
    exact ret_objs (.inr rfl) [] (objs' := [.box [.d (.cx .f32 f_.Source.A.re f_.Source.A.im), .d (.cx .f32 f_.Source.B.re f_.Source.B.im), .d (.cx .f32 f_.Source.C.re f_.Source.C.im), .d (.sl false (f_.Buses.map eSBus))]]) (new := []) rfl (by simp) (by simp) rfl (by repeat' first | exact trivial | refine ⟨?_, ?_⟩) rfl rfl (by repeat' first | exact trivial | refine ⟨?_, ?_⟩) (fun h => nomatch h) ⟨rfl, rfl, rfl⟩

def m_impl_CustomersBelow_l1 (n : Nat) (f_ : SFeeder) : Nat → List Int → Int → Option (List Int × Bool)
  | 0, _, _ => none
  | m25 + 1, v18, v19 =>
    if v19 < (f_.Buses.length : Int) then
      (m_impl_Feeder_below n f_ v19).bind fun x28 =>
      (m_impl_Feeder_customers n f_ x28).bind fun x29 =>
      grd (room (v18.length + 1) 8) <|
      (m_impl_CustomersBelow_l1 n f_ m25) (v18 ++ [x29]) (w64 (v19 + (1 : Int)))
    else
      some (v18, true)
def m_impl_CustomersBelow (n : Nat) (f_ : SFeeder) : Option (List Int × Bool) :=
  (m_impl_ValidFeeder n f_).bind fun x13 =>
  if x13 = true then
    m_impl_CustomersBelow_l1 n f_ n ([] : List Int) (0 : Int)
  else
    some (([] : List Int), false)
theorem impl_CustomersBelow_ok_fr0 (fr : Bool) (n : Nat) (f_ : SFeeder) {r : List Int × Bool} (h : m_impl_CustomersBelow n f_ = some r) : ACall prog fr 19 [.agg [.d (.cx .f32 f_.Source.A.re f_.Source.A.im), .d (.cx .f32 f_.Source.B.re f_.Source.B.im), .d (.cx .f32 f_.Source.C.re f_.Source.C.im), .d (.sl false (f_.Buses.map eSBus))]] [] (fun v o new => v = .tup [.row 0 r.1.length 0 r.1.length, .d (.bool r.2)] ∧ o = [] ∧ new = [.row 1 (r.1.map eInti64)]) := by
  refine acall_of_aw hτ func19 rfl (by simp) (by simp) ?_
  unfold m_impl_CustomersBelow at h
  refine aw_seq ?_
  refine aw_region ?_
  refine awl_valH hτ rfl rfl rfl ?_
  refine awl_val hτ rfl rfl rfl ?_
  refine awl_val hτ rfl rfl rfl ?_
  refine awl_nil ?_
  refine aw_seq ?_
  refine aw_seq ?_
  refine aw_region ?_
  refine awl_val hτ rfl rfl rfl ?_
  refine bnd_elim h fun x13 hx13 h => ?_
  refine awl_callP hτ false [] rfl rfl rfl (enterOk func20 rfl rfl) rfl rfl (by simp) ⟨(by repeat' first | exact trivial | refine ⟨?_, ?_⟩), trivial⟩ (by repeat' first | exact trivial | refine ⟨?_, ?_⟩) (impl_ValidFeeder_ok n f_ hx13) ?_
  rintro r0 o0 n0 ⟨rfl, rfl, rfl⟩ -
  refine awl_val hτ rfl rfl rfl ?_
  refine awl_nil ?_
  refine aw_weak (weak_ofP [0] (l := [(1, .ptr 0 0), (8, .d (.bool (!x13)))]) (objs := [.box [.d (.cx .f32 f_.Source.A.re f_.Source.A.im), .d (.cx .f32 f_.Source.B.re f_.Source.B.im), .d (.cx .f32 f_.Source.C.re f_.Source.C.im), .d (.sl false (f_.Buses.map eSBus))]]) rfl (by simp) rfl (by repeat' first | exact trivial | refine ⟨?_, ?_⟩) ⟨rfl, trivial, rfl, trivial, trivial⟩) ?_
  refine aw_cond rfl (fun hc14 => ?_) (fun hc14 => ?_)
  · have hc14 := not_t hc14
    have h := if_bf h hc14
    refine aw_seq ?_
    refine aw_region ?_
    refine awl_val hτ rfl rfl rfl ?_
    refine awl_val hτ rfl rfl rfl ?_
    refine awl_nil ?_
    refine aw_weak (weak_ofP [] (l := [(2, .d (.nils)), (3, .d (.bool false))]) (objs := []) rfl (by simp) rfl (by repeat' first | exact trivial | refine ⟨?_, ?_⟩) ⟨rfl, trivial, rfl, trivial, trivial⟩) ?_
    refine aw_weak (weak_relax [1] (l' := [(2, .row 0 (([] : List Int).length) 0 (([] : List Int).length)), (3, .d (.bool false))]) (objs' := []) (.cons (.c (.ghost ⟨Nat.le_of_ble_eq_true rfl, Nat.le_of_ble_eq_true rfl⟩)) (.cons (.c (.refl _)) .nil)) .nil) ?_
    refine aw_ret ?_
    have hr := Option.some.inj h
    subst hr
    exact ret_objs (.inr rfl) [0] (objs' := []) (new := [.row 1 (([] : List Int).map eInti64)]) rfl (by simp) (by simp) rfl (by repeat' first | exact trivial | refine ⟨?_, ?_⟩) rfl rfl (by repeat' first | exact trivial | refine ⟨?_, ?_⟩) (fun _ => ⟨by simp [V.flat, V.flatA, V.flatC, D.flat], (flat_cons (flat_row eInti64_flat _) flat_nil)⟩) ⟨rfl, rfl, rfl⟩
  · have hc14 := not_f hc14
    have h := if_bt h hc14
    refine aw_skip ?_
    refine aw_seq ?_
    refine aw_region ?_
    refine awl_valH hτ rfl rfl rfl ?_
    refine awl_val hτ rfl rfl rfl ?_
    refine awl_nil ?_
    refine aw_seq ?_
    refine aw_seq ?_
    refine aw_region ?_
    refine awl_val hτ rfl rfl rfl ?_
    refine awl_val hτ rfl rfl rfl ?_
    refine awl_val hτ (v := .d (.int .i64 (f_.Buses.length : Int))) rfl rfl (Eq.trans rfl (or_len (f := eSBus) f_.Buses)) ?_
    refine awl_val hτ rfl rfl rfl ?_
    refine awl_nil ?_
    refine aw_block ?_
    refine aw_loop (ι := Nat × List Int × Int) (fun (m25, v18, v19) => St.of [(1, .ptr 0 0), (4, .row 1 v18.length 0 v18.length), (12, .d (.int .i64 (f_.Buses.length : Int))), (13, .d (.int .i64 v19))] [.box [.d (.cx .f32 f_.Source.A.re f_.Source.A.im), .d (.cx .f32 f_.Source.B.re f_.Source.B.im), .d (.cx .f32 f_.Source.C.re f_.Source.C.im), .d (.sl false (f_.Buses.map eSBus))], .row 1 (v18.map eInti64)] f19.ntmps 0) (fun (m25, v18, v19) => m_impl_CustomersBelow_l1 n f_ m25 v18 v19 = some r) (fun x => x.1) (n, ([] : List Int), (0 : Int)) h (weak_ofP [0, 1] (l := [(1, .ptr 0 0), (4, .row 1 (([] : List Int).length) 0 (([] : List Int).length)), (12, .d (.int .i64 (f_.Buses.length : Int))), (13, .d (.int .i64 (0 : Int)))]) (objs := [.box [.d (.cx .f32 f_.Source.A.re f_.Source.A.im), .d (.cx .f32 f_.Source.B.re f_.Source.B.im), .d (.cx .f32 f_.Source.C.re f_.Source.C.im), .d (.sl false (f_.Buses.map eSBus))], .row 1 (([] : List Int).map eInti64)]) rfl (by simp) rfl (by repeat' first | exact trivial | refine ⟨?_, ?_⟩) ⟨rfl, trivial, rfl, trivial, rfl, trivial, rfl, trivial, trivial⟩) ?_
    rintro ⟨m25, v18, v19⟩ h
    replace h : m_impl_CustomersBelow_l1 n f_ m25 v18 v19 = some r := h
    rcases m25 with _ | m25
    · rw [m_impl_CustomersBelow_l1] at h; cases h
    rw [m_impl_CustomersBelow_l1] at h
    refine aw_seq ?_
    refine aw_region ?_
    refine awl_val hτ rfl rfl rfl ?_
    refine awl_nil ?_
    refine aw_seq ?_
    refine aw_cond rfl (fun hc27 => ?_) (fun hc27 => ?_)
    · have h := if_t h hc27
      refine aw_skip ?_
      refine aw_seq ?_
      refine aw_block ?_
      refine aw_seq ?_
      refine aw_region ?_
      refine awl_val hτ rfl rfl rfl ?_
      refine awl_val hτ rfl rfl rfl ?_
      refine awl_nil ?_
      refine aw_region ?_
      refine awl_val hτ rfl rfl rfl ?_
      refine awl_val hτ rfl rfl rfl ?_
      refine bnd_elim h fun x28 hx28 h => ?_
      refine awl_callP hτ false [0] rfl rfl rfl (enterOk func81 rfl rfl) rfl rfl (by simp) ⟨trivial, trivial, trivial⟩ (by repeat' first | exact trivial | refine ⟨?_, ?_⟩) (impl_Feeder_below_ok n f_ v19 hx28) ?_
      rintro r0 o0 n0 ⟨rfl, rfl, rfl⟩ -
      refine awl_weak (weak_ofP [0, 1] (l := [(1, .ptr 0 0), (4, .row 1 v18.length 0 v18.length), (12, .d (.int .i64 (f_.Buses.length : Int))), (13, .d (.int .i64 v19)), (16, .row 1 v18.length 0 v18.length), (18, .d (.sl false (x28.map eInti64)))]) (objs := [.box [.d (.cx .f32 f_.Source.A.re f_.Source.A.im), .d (.cx .f32 f_.Source.B.re f_.Source.B.im), .d (.cx .f32 f_.Source.C.re f_.Source.C.im), .d (.sl false (f_.Buses.map eSBus))], .row 1 (v18.map eInti64)]) rfl (by simp) rfl (by repeat' first | exact trivial | refine ⟨?_, ?_⟩) ⟨rfl, trivial, rfl, trivial, rfl, trivial, rfl, trivial, rfl, trivial, (exV_view (f := eInti64) x28 rfl rfl rfl), (exVP_view (f := eInti64) x28 rfl rfl rfl), trivial⟩) ?_
      refine bnd_elim h fun x29 hx29 h => ?_
      refine awl_callP hτ false [0] rfl rfl rfl (enterOk func83 rfl rfl) rfl rfl (by simp) ⟨trivial, trivial, trivial⟩ (by repeat' first | exact trivial | refine ⟨?_, ?_⟩) (impl_Feeder_customers_ok n f_ x28 hx29) ?_
      rintro r0 o0 n0 ⟨rfl, rfl, rfl⟩ -
      refine awl_valH hτ rfl rfl rfl ?_
      refine grd_elim h fun hg30 h => ?_
      refine awl_needH hτ rfl rfl (Eq.trans rfl (or_append (f := eInti64) v18 [x29] rfl)) ⟨⟨rfl, by decide⟩, len_map _, rfl, rfl, hg30, by decide, (all1 rfl)⟩ ?_
      refine awl_val hτ rfl rfl rfl ?_
      refine awl_nil ?_
      refine aw_region ?_
      refine awl_val hτ rfl rfl rfl ?_
      refine awl_val hτ rfl rfl rfl ?_
      refine awl_nil ?_
      exact ⟨(m25, (v18 ++ [x29]), (w64 (v19 + (1 : Int)))), h, Nat.lt_succ_self m25, (weak_ofP [0, 1] (l := [(1, .ptr 0 0), (4, .row 1 ((v18 ++ [x29]).length) 0 ((v18 ++ [x29]).length)), (12, .d (.int .i64 (f_.Buses.length : Int))), (13, .d (.int .i64 (w64 (v19 + (1 : Int)))))]) (objs := [.box [.d (.cx .f32 f_.Source.A.re f_.Source.A.im), .d (.cx .f32 f_.Source.B.re f_.Source.B.im), .d (.cx .f32 f_.Source.C.re f_.Source.C.im), .d (.sl false (f_.Buses.map eSBus))], .row 1 ((v18 ++ [x29]).map eInti64)]) rfl (by simp) rfl (by repeat' first | exact trivial | refine ⟨?_, ?_⟩) ⟨rfl, trivial, rfl, trivial, rfl, trivial, rfl, trivial, trivial⟩)⟩
    · have h := if_f h hc27
      refine aw_exit ?_
      refine aw_seq ?_
      refine aw_region ?_
      refine awl_val hτ rfl rfl rfl ?_
      refine awl_val hτ rfl rfl rfl ?_
      refine awl_val hτ rfl rfl rfl ?_
      refine awl_nil ?_
      refine aw_weak (weak_ofP [1] (l := [(2, .row 0 v18.length 0 v18.length), (3, .d (.bool true))]) (objs := [.row 1 (v18.map eInti64)]) rfl (by simp) rfl (by repeat' first | exact trivial | refine ⟨?_, ?_⟩) ⟨rfl, trivial, rfl, trivial, trivial⟩) ?_
      refine aw_ret ?_
      have hr := Option.some.inj h
      subst hr
      exact ret_objs (.inr rfl) [0] (objs' := []) (new := [.row 1 (v18.map eInti64)]) rfl (by simp) (by simp) rfl (by repeat' first | exact trivial | refine ⟨?_, ?_⟩) rfl rfl (by repeat' first | exact trivial | refine ⟨?_, ?_⟩) (fun _ => ⟨by simp [V.flat, V.flatA, V.flatC, D.flat], (flat_cons (flat_row eInti64_flat _) flat_nil)⟩) ⟨rfl, rfl, rfl⟩
theorem impl_CustomersBelow_ok (n : Nat) (f_ : SFeeder) {r : List Int × Bool} (h : m_impl_CustomersBelow n f_ = some r) : ACall prog false 19 [.agg [.d (.cx .f32 f_.Source.A.re f_.Source.A.im), .d (.cx .f32 f_.Source.B.re f_.Source.B.im), .d (.cx .f32 f_.Source.C.re f_.Source.C.im), .d (.sl false (f_.Buses.map eSBus))]] [] (fun v o new => v = .tup [.row 0 r.1.length 0 r.1.length, .d (.bool r.2)] ∧ o = [] ∧ new = [.row 1 (r.1.map eInti64)]) := impl_CustomersBelow_ok_fr0 false n f_ h
theorem impl_CustomersBelow_ok_fr (n : Nat) (f_ : SFeeder) {r : List Int × Bool} (h : m_impl_CustomersBelow n f_ = some r) : ACall prog true 19 [.agg [.d (.cx .f32 f_.Source.A.re f_.Source.A.im), .d (.cx .f32 f_.Source.B.re f_.Source.B.im), .d (.cx .f32 f_.Source.C.re f_.Source.C.im), .d (.sl false (f_.Buses.map eSBus))]] [] (fun v o new => v = .tup [.row 0 r.1.length 0 r.1.length, .d (.bool r.2)] ∧ o = [] ∧ new = [.row 1 (r.1.map eInti64)]) := impl_CustomersBelow_ok_fr0 true n f_ h

def m_laws_r8In_l1 (n : Nat) (list_ : List Int) (n_ : Int) : Nat → Int → Option Bool
  | 0, _ => none
  | m9 + 1, v6 =>
    if v6 < (list_.length : Int) then
      (getI list_ v6).bind fun x13 =>
      if x13 = n_ then
        some true
      else
        (m_laws_r8In_l1 n list_ n_ m9) (w64 (v6 + (1 : Int)))
    else
      some false
def m_laws_r8In (n : Nat) (list_ : List Int) (n_ : Int) : Option Bool :=
  m_laws_r8In_l1 n list_ n_ n (0 : Int)
theorem laws_r8In_ok_fr0 (fr : Bool) (n : Nat) (list_ : List Int) (n_ : Int) {r : Bool} (h : m_laws_r8In n list_ n_ = some r) : ACall prog fr 21 [.d (.sl false (list_.map eInti64)), .d (.int .i64 n_)] [] (fun v o new => v = .d (.bool r) ∧ o = [] ∧ new = []) := by
  refine acall_of_aw hτ func21 rfl (by simp) (by simp) ?_
  unfold m_laws_r8In at h
  refine aw_seq ?_
  refine aw_region ?_
  refine awl_val hτ rfl rfl rfl ?_
  refine awl_nil ?_
  refine aw_seq ?_
  refine aw_seq ?_
  refine aw_region ?_
  refine awl_val hτ rfl rfl rfl ?_
  refine awl_nil ?_
  refine aw_block ?_
  refine aw_loop (ι := Nat × Int) (fun (m9, v6) => St.of [(0, .d (.sl false (list_.map eInti64))), (1, .d (.int .i64 n_)), (5, .d (.int .i64 v6))] [] f21.ntmps 0) (fun (m9, v6) => m_laws_r8In_l1 n list_ n_ m9 v6 = some r) (fun x => x.1) (n, (0 : Int)) h (weak_ofP [] (l := [(0, .d (.sl false (list_.map eInti64))), (1, .d (.int .i64 n_)), (5, .d (.int .i64 (0 : Int)))]) (objs := []) rfl (by simp) rfl (by repeat' first | exact trivial | refine ⟨?_, ?_⟩) ⟨rfl, trivial, rfl, trivial, rfl, trivial, trivial⟩) ?_
  rintro ⟨m9, v6⟩ h
  replace h : m_laws_r8In_l1 n list_ n_ m9 v6 = some r := h
  rcases m9 with _ | m9
  · rw [m_laws_r8In_l1] at h; cases h
  rw [m_laws_r8In_l1] at h
  refine aw_seq ?_
  refine aw_seq ?_
  refine aw_region ?_
  refine awl_val hτ rfl rfl rfl ?_
  refine awl_val hτ rfl rfl rfl ?_
  refine awl_val hτ (v := .d (.int .i64 (list_.length : Int))) rfl rfl (Eq.trans rfl (or_len (f := eInti64) list_)) ?_
  refine awl_val hτ rfl rfl rfl ?_
  refine awl_nil ?_
  refine aw_cond rfl (fun hc11 => ?_) (fun hc11 => ?_)
  · have h := if_t h hc11
    refine aw_skip ?_
    refine aw_seq ?_
    refine aw_block ?_
    refine aw_seq ?_
    refine aw_region ?_
    refine awl_val hτ rfl rfl rfl ?_
    refine awl_val hτ rfl rfl rfl ?_
    refine bnd_elim h fun x13 hx13 h => ?_
    refine awl_elem hτ rfl rfl rfl (getI_some hx13).1 (map_getI hx13) rfl ?_
    refine awl_val hτ rfl rfl rfl ?_
    refine awl_val hτ rfl rfl rfl ?_
    refine awl_val hτ (v := .d (.bool (decide (x13 = n_)))) rfl rfl (or_ieq _ _) ?_
    refine awl_nil ?_
    refine aw_weak (weak_ofP [] (l := [(0, .d (.sl false (list_.map eInti64))), (1, .d (.int .i64 n_)), (5, .d (.int .i64 v6)), (17, .d (.bool (decide (x13 = n_))))]) (objs := []) rfl (by simp) rfl (by repeat' first | exact trivial | refine ⟨?_, ?_⟩) ⟨rfl, trivial, rfl, trivial, rfl, trivial, rfl, trivial, trivial⟩) ?_
    refine aw_cond rfl (fun hc14 => ?_) (fun hc14 => ?_)
    · have h := if_t h hc14
      refine aw_seq ?_
      refine aw_region ?_
      refine awl_val hτ rfl rfl rfl ?_
      refine awl_nil ?_
      refine aw_weak (weak_ofP [] (l := [(4, .d (.bool true))]) (objs := []) rfl (by simp) rfl (by repeat' first | exact trivial | refine ⟨?_, ?_⟩) ⟨rfl, trivial, trivial⟩) ?_
      refine aw_ret ?_
      have hr := Option.some.inj h
      subst hr
      exact ret_objs (.inr rfl) [] (objs' := []) (new := []) rfl (by simp) (by simp) rfl (by repeat' first | exact trivial | refine ⟨?_, ?_⟩) rfl rfl (by repeat' first | exact trivial | refine ⟨?_, ?_⟩) (fun _ => ⟨by simp [V.flat, V.flatA, V.flatC, D.flat], flat_nil⟩) ⟨rfl, rfl, rfl⟩
    · have h := if_f h hc14
      refine aw_skip ?_
      refine aw_region ?_
      refine awl_val hτ rfl rfl rfl ?_
      refine awl_val hτ rfl rfl rfl ?_
      refine awl_val hτ rfl rfl rfl ?_
      refine awl_nil ?_
      exact ⟨(m9, (w64 (v6 + (1 : Int)))), h, Nat.lt_succ_self m9, (weak_ofP [] (l := [(0, .d (.sl false (list_.map eInti64))), (1, .d (.int .i64 n_)), (5, .d (.int .i64 (w64 (v6 + (1 : Int)))))]) (objs := []) rfl (by simp) rfl (by repeat' first | exact trivial | refine ⟨?_, ?_⟩) ⟨rfl, trivial, rfl, trivial, rfl, trivial, trivial⟩)⟩
  · have h := if_f h hc11
    refine aw_exit ?_
    refine aw_seq ?_
    refine aw_region ?_
    refine awl_val hτ rfl rfl rfl ?_
    refine awl_nil ?_
    refine aw_weak (weak_ofP [] (l := [(4, .d (.bool false))]) (objs := []) rfl (by simp) rfl (by repeat' first | exact trivial | refine ⟨?_, ?_⟩) ⟨rfl, trivial, trivial⟩) ?_
    refine aw_ret ?_
    have hr := Option.some.inj h
    subst hr
    exact ret_objs (.inr rfl) [] (objs' := []) (new := []) rfl (by simp) (by simp) rfl (by repeat' first | exact trivial | refine ⟨?_, ?_⟩) rfl rfl (by repeat' first | exact trivial | refine ⟨?_, ?_⟩) (fun _ => ⟨by simp [V.flat, V.flatA, V.flatC, D.flat], flat_nil⟩) ⟨rfl, rfl, rfl⟩
theorem laws_r8In_ok (n : Nat) (list_ : List Int) (n_ : Int) {r : Bool} (h : m_laws_r8In n list_ n_ = some r) : ACall prog false 21 [.d (.sl false (list_.map eInti64)), .d (.int .i64 n_)] [] (fun v o new => v = .d (.bool r) ∧ o = [] ∧ new = []) := laws_r8In_ok_fr0 false n list_ n_ h
theorem laws_r8In_ok_fr (n : Nat) (list_ : List Int) (n_ : Int) {r : Bool} (h : m_laws_r8In n list_ n_ = some r) : ACall prog true 21 [.d (.sl false (list_.map eInti64)), .d (.int .i64 n_)] [] (fun v o new => v = .d (.bool r) ∧ o = [] ∧ new = []) := laws_r8In_ok_fr0 true n list_ n_ h

def m_laws_FnTrees_j4 (n : Nat) (x59 : Int) (x64 : List Int × Bool) (v98 : Int) : Option Bool :=
  (getI x64.1 x59).bind fun x111 =>
  some (decide (v98 = x111))
def m_laws_FnTrees_j6 (n : Nat) (k126 : Int → Option Bool) (v118 : Int) : Option Bool :=
  k126 (w64 (v118 + (1 : Int)))
def m_laws_FnTrees_j7 (n : Nat) (k126 : Int → Option Bool) (v118 : Int) (v139 : Bool) : Option Bool :=
  if v139 = true then
    some false
  else
    m_laws_FnTrees_j6 n k126 v118
def m_laws_FnTrees_l5 (n : Nat) (x58 : SFeeder) (x59 : Int) (x61 : List Int × Bool) (x64 : List Int × Bool) (v98 : Int) : Nat → Int → Option Bool
  | 0, _ => none
  | m125 + 1, v118 =>
    if v118 < (x58.Buses.length : Int) then
      (m_impl_PathTo n (SFeeder.mk x58.Source x58.Buses) v118).bind fun x134 =>
      if x134.2 = true then
        (m_laws_r8In n x61.1 v118).bind fun x143 =>
        (m_laws_r8In n x134.1 x59).bind fun x144 =>
        m_laws_FnTrees_j7 n (m_laws_FnTrees_l5 n x58 x59 x61 x64 v98 m125) v118 (!(x143 == x144))
      else
        m_laws_FnTrees_j7 n (m_laws_FnTrees_l5 n x58 x59 x61 x64 v98 m125) v118 true
    else
      m_laws_FnTrees_j4 n x59 x64 v98
def m_laws_FnTrees_j3 (n : Nat) (x58 : SFeeder) (x59 : Int) (x61 : List Int × Bool) (x64 : List Int × Bool) (v98 : Int) : Option Bool :=
  m_laws_FnTrees_l5 n x58 x59 x61 x64 v98 n (0 : Int)
def m_laws_FnTrees_l8 (n : Nat) (x58 : SFeeder) (x59 : Int) (x61 : List Int × Bool) (x62 : List Int × Bool) (x64 : List Int × Bool) : Nat → Int → Int → Option Bool
  | 0, _, _ => none
  | m156 + 1, v149, v150 =>
    if v150 < (x62.1.length : Int) then
      (getI x62.1 v150).bind fun x164 =>
      (getI x58.Buses x164).bind fun x165 =>
      if x165.Parent = x59 then
        (getI x64.1 x164).bind fun x167 =>
        (m_laws_FnTrees_l8 n x58 x59 x61 x62 x64 m156) (w64 (v149 + x167)) (w64 (v150 + (1 : Int)))
      else
        some false
    else
      m_laws_FnTrees_j3 n x58 x59 x61 x64 v149
def m_laws_FnTrees_j2 (n : Nat) (x58 : SFeeder) (x59 : Int) (x61 : List Int × Bool) (x62 : List Int × Bool) (x64 : List Int × Bool) : Option Bool :=
  (getI x58.Buses x59).bind fun x87 =>
  m_laws_FnTrees_l8 n x58 x59 x61 x62 x64 n x87.Customers (0 : Int)
def m_laws_FnTrees_l9 (n : Nat) (x58 : SFeeder) (x59 : Int) (x60 : List Int × Bool) (x61 : List Int × Bool) (x62 : List Int × Bool) (x64 : List Int × Bool) : Nat → Int → Option Bool
  | 0, _ => none
  | m177 + 1, v172 =>
    if v172 < (x60.1.length : Int) then
      (getI x60.1 v172).bind fun x183 =>
      (getI x58.Buses x183).bind fun x184 =>
      (getI x60.1 (w64 (v172 - (1 : Int)))).bind fun x185 =>
      if x184.Parent = x185 then
        (m_laws_FnTrees_l9 n x58 x59 x60 x61 x62 x64 m177) (w64 (v172 + (1 : Int)))
      else
        some false
    else
      m_laws_FnTrees_j2 n x58 x59 x61 x62 x64
def m_laws_FnTrees_j1 (n : Nat) (x58 : SFeeder) (x59 : Int) (x60 : List Int × Bool) (x61 : List Int × Bool) (x62 : List Int × Bool) (x64 : List Int × Bool) : Option Bool :=
  m_laws_FnTrees_l9 n x58 x59 x60 x61 x62 x64 n (1 : Int)
def m_laws_FnTrees_j10 (n : Nat) (x58 : SFeeder) (x59 : Int) (x60 : List Int × Bool) (x61 : List Int × Bool) (x62 : List Int × Bool) (x64 : List Int × Bool) (v202 : Bool) : Option Bool :=
  if v202 = true then
    some false
  else
    m_laws_FnTrees_j1 n x58 x59 x60 x61 x62 x64
def m_laws_FnTrees (n : Nat) (code_ : List Int) (more_ : List Int) : Option Bool :=
  (m_laws_r8Long n code_ more_).bind fun x56 =>
  if x56 = true then
    some true
  else
    (m_spec_R8Wild n code_).bind fun x58 =>
    (m_laws_r8At n more_ (0 : Int) (x58.Buses.length : Int)).bind fun x59 =>
    (m_impl_PathTo n (SFeeder.mk x58.Source x58.Buses) x59).bind fun x60 =>
    (m_impl_BusesBelow n (SFeeder.mk x58.Source x58.Buses) x59).bind fun x61 =>
    (m_impl_ChildrenOf n (SFeeder.mk x58.Source x58.Buses) x59).bind fun x62 =>
    (m_impl_DepthOf n (SFeeder.mk x58.Source x58.Buses)).bind fun x63 =>
    (m_impl_CustomersBelow n (SFeeder.mk x58.Source x58.Buses)).bind fun x64 =>
    if x60.2 = true then
      if x61.2 = true then
        if x62.2 = true then
          if x63.2 = true then
            if x64.2 = true then
              (m_impl_ValidFeeder n (SFeeder.mk x58.Source x58.Buses)).bind fun x210 =>
              if x210 = true then
                if (x60.1.length : Int) = (0 : Int) then
                  m_laws_FnTrees_j10 n x58 x59 x60 x61 x62 x64 true
                else
                  (getI x60.1 (0 : Int)).bind fun x213 =>
                  if x213 = (0 : Int) then
                    (getI x60.1 (w64 ((x60.1.length : Int) - (1 : Int)))).bind fun x215 =>
                    if x215 = x59 then
                      if (x60.1.length : Int) > x63.1 then
                        m_laws_FnTrees_j10 n x58 x59 x60 x61 x62 x64 true
                      else
                        m_laws_FnTrees_j10 n x58 x59 x60 x61 x62 x64 (!(decide ((x64.1.length : Int) = (x58.Buses.length : Int))))
                    else
                      m_laws_FnTrees_j10 n x58 x59 x60 x61 x62 x64 true
                  else
                    m_laws_FnTrees_j10 n x58 x59 x60 x61 x62 x64 true
              else
                m_laws_FnTrees_j10 n x58 x59 x60 x61 x62 x64 true
            else
              m_laws_FnTrees_j10 n x58 x59 x60 x61 x62 x64 true
          else
            m_laws_FnTrees_j10 n x58 x59 x60 x61 x62 x64 true
        else
          m_laws_FnTrees_j10 n x58 x59 x60 x61 x62 x64 true
      else
        m_laws_FnTrees_j10 n x58 x59 x60 x61 x62 x64 true
    else
      m_laws_FnTrees_j10 n x58 x59 x60 x61 x62 x64 true
theorem laws_FnTrees_ok_fr0 (fr : Bool) (n : Nat) (code_ : List Int) (more_ : List Int) {r : Bool} (h : m_laws_FnTrees n code_ more_ = some r) : ACall prog fr 3 [.d (.sl false (code_.map eIntu8)), .d (.sl false (more_.map eIntu8))] [] (fun v o new => v = .d (.bool r) ∧ o = [] ∧ new = []) := by
  refine acall_of_aw hτ func3 rfl (by simp) (by simp) ?_
  unfold m_laws_FnTrees at h
  refine aw_seq ?_
  refine aw_region ?_
  refine awl_val hτ rfl rfl rfl ?_
  refine awl_nil ?_
  refine aw_seq ?_
  refine aw_seq ?_
  refine aw_region ?_
  refine awl_val hτ rfl rfl rfl ?_
  refine awl_val hτ rfl rfl rfl ?_
  refine bnd_elim h fun x56 hx56 h => ?_
  refine awl_callP hτ false [] rfl rfl rfl (enterOk func12 rfl rfl) rfl rfl (by simp) ⟨trivial, trivial, trivial⟩ (by repeat' first | exact trivial | refine ⟨?_, ?_⟩) (laws_r8Long_ok n code_ more_ hx56) ?_
  rintro r0 o0 n0 ⟨rfl, rfl, rfl⟩ -
  refine awl_nil ?_
  refine aw_cond rfl (fun hc57 => ?_) (fun hc57 => ?_)
  · have h := if_bt h hc57
    refine aw_seq ?_
    refine aw_region ?_
    refine awl_val hτ rfl rfl rfl ?_
    refine awl_nil ?_
    refine aw_weak (weak_ofP [] (l := [(4, .d (.bool true))]) (objs := []) rfl (by simp) rfl (by repeat' first | exact trivial | refine ⟨?_, ?_⟩) ⟨rfl, trivial, trivial⟩) ?_
    refine aw_ret ?_
    have hr := Option.some.inj h
    subst hr
    exact ret_objs (.inr rfl) [] (objs' := []) (new := []) rfl (by simp) (by simp) rfl (by repeat' first | exact trivial | refine ⟨?_, ?_⟩) rfl rfl (by repeat' first | exact trivial | refine ⟨?_, ?_⟩) (fun _ => ⟨by simp [V.flat, V.flatA, V.flatC, D.flat], flat_nil⟩) ⟨rfl, rfl, rfl⟩
  · have h := if_bf h hc57
    refine aw_skip ?_
    refine aw_seq ?_
    refine aw_region ?_
    refine awl_val hτ rfl rfl rfl ?_
    refine bnd_elim h fun x58 hx58 h => ?_
    refine awl_callP hτ false [] rfl rfl rfl (enterOk func13 rfl rfl) rfl rfl (by simp) ⟨trivial, trivial⟩ (by repeat' first | exact trivial | refine ⟨?_, ?_⟩) (spec_R8Wild_ok n code_ hx58) ?_
    rintro r0 o0 n0 ⟨rfl, rfl, rfl⟩ -
    refine awl_valH hτ rfl rfl rfl ?_
    refine awl_valH hτ rfl rfl rfl ?_
    refine awl_nil ?_
    refine aw_seq ?_
    refine aw_weak (weak_ofP [1, 0] (l := [(1, .d (.sl false (more_.map eIntu8))), (5, .ptr 0 0)]) (objs := [.box [.d (.cx .f32 x58.Source.A.re x58.Source.A.im), .d (.cx .f32 x58.Source.B.re x58.Source.B.im), .d (.cx .f32 x58.Source.C.re x58.Source.C.im), .row 1 x58.Buses.length 0 x58.Buses.length], .row 8 (x58.Buses.map eSBus)]) rfl (by simp) rfl (by repeat' first | exact trivial | refine ⟨?_, ?_⟩) ⟨rfl, trivial, rfl, trivial, trivial⟩) ?_
    refine aw_region ?_
    refine awl_val hτ rfl rfl rfl ?_
    refine awl_val hτ rfl rfl rfl ?_
    refine awl_need hτ rfl rfl rfl (len_map _) ?_
    refine awl_val hτ rfl rfl rfl ?_
    refine awl_nil ?_
    refine aw_seq ?_
    refine aw_region ?_
    refine awl_val hτ rfl rfl rfl ?_
    refine awl_val hτ rfl rfl rfl ?_
    refine bnd_elim h fun x59 hx59 h => ?_
    refine awl_callP hτ false [] rfl rfl rfl (enterOk func14 rfl rfl) rfl rfl (by simp) ⟨trivial, trivial, trivial, trivial⟩ (by repeat' first | exact trivial | refine ⟨?_, ?_⟩) (laws_r8At_ok n more_ (0 : Int) (x58.Buses.length : Int) hx59) ?_
    rintro r0 o0 n0 ⟨rfl, rfl, rfl⟩ -
    refine awl_val hτ rfl rfl rfl ?_
    refine awl_nil ?_
    refine aw_seq ?_
    refine aw_weak (weak_ofP [0, 1] (l := [(5, .ptr 0 0), (6, .d (.int .i64 (x58.Buses.length : Int))), (7, .d (.int .i64 x59))]) (objs := [.box [.d (.cx .f32 x58.Source.A.re x58.Source.A.im), .d (.cx .f32 x58.Source.B.re x58.Source.B.im), .d (.cx .f32 x58.Source.C.re x58.Source.C.im), .row 1 x58.Buses.length 0 x58.Buses.length], .row 8 (x58.Buses.map eSBus)]) rfl (by simp) rfl (by repeat' first | exact trivial | refine ⟨?_, ?_⟩) ⟨rfl, trivial, rfl, trivial, rfl, trivial, trivial⟩) ?_
    refine aw_region ?_
    refine awl_val hτ rfl rfl rfl ?_
    refine awl_val hτ rfl rfl rfl ?_
    refine awl_weak (weak_ofP [0, 1] (l := [(5, .ptr 0 0), (6, .d (.int .i64 (x58.Buses.length : Int))), (7, .d (.int .i64 x59)), (36, .agg [.d (.cx .f32 x58.Source.A.re x58.Source.A.im), .d (.cx .f32 x58.Source.B.re x58.Source.B.im), .d (.cx .f32 x58.Source.C.re x58.Source.C.im), .row 1 x58.Buses.length 0 x58.Buses.length]), (37, .d (.int .i64 x59))]) (objs := [.box [.d (.cx .f32 x58.Source.A.re x58.Source.A.im), .d (.cx .f32 x58.Source.B.re x58.Source.B.im), .d (.cx .f32 x58.Source.C.re x58.Source.C.im), .row 1 x58.Buses.length 0 x58.Buses.length], .row 8 (x58.Buses.map eSBus)]) rfl (by simp) rfl (by repeat' first | exact trivial | refine ⟨?_, ?_⟩) ⟨rfl, trivial, rfl, trivial, rfl, trivial, rfl, (by repeat' first | exact trivial | refine ⟨?_, ?_⟩), rfl, trivial, trivial⟩) ?_
    refine bnd_elim h fun x60 hx60 h => ?_
    refine awl_callP hτ true [] rfl rfl rfl (enterOk func15 rfl rfl) (mapO_cons (exV_agg (mapO_cons rfl (mapO_cons rfl (mapO_cons rfl (mapO_cons (exC_view (f := eSBus) x58.Buses rfl rfl rfl) mapO_nil))))) (mapO_cons rfl mapO_nil)) rfl (by simp) ⟨⟨trivial, trivial, trivial, (exP_view (f := eSBus) x58.Buses rfl rfl rfl)⟩, trivial, trivial⟩ (by repeat' first | exact trivial | refine ⟨?_, ?_⟩) (impl_PathTo_ok_fr n (SFeeder.mk x58.Source x58.Buses) x59 hx60) ?_
    rintro r0 o0 n0 ⟨rfl, rfl, rfl⟩ -
    refine awl_val hτ rfl rfl rfl ?_
    refine awl_val hτ rfl rfl rfl ?_
    refine awl_val hτ rfl rfl rfl ?_
    refine awl_val hτ rfl rfl rfl ?_
    refine awl_val hτ rfl rfl rfl ?_
    refine awl_nil ?_
    refine aw_seq ?_
    refine aw_weak (weak_ofP [0, 1, 2] (l := [(5, .ptr 0 0), (6, .d (.int .i64 (x58.Buses.length : Int))), (7, .d (.int .i64 x59)), (8, .row 2 x60.1.length 0 x60.1.length), (9, .d (.bool x60.2))]) (objs := [.box [.d (.cx .f32 x58.Source.A.re x58.Source.A.im), .d (.cx .f32 x58.Source.B.re x58.Source.B.im), .d (.cx .f32 x58.Source.C.re x58.Source.C.im), .row 1 x58.Buses.length 0 x58.Buses.length], .row 8 (x58.Buses.map eSBus), .row 1 (x60.1.map eInti64)]) rfl (by simp) rfl (by repeat' first | exact trivial | refine ⟨?_, ?_⟩) ⟨rfl, trivial, rfl, trivial, rfl, trivial, rfl, trivial, rfl, trivial, trivial⟩) ?_
    refine aw_region ?_
    refine awl_val hτ rfl rfl rfl ?_
    refine awl_val hτ rfl rfl rfl ?_
    refine awl_weak (weak_ofP [0, 1, 2] (l := [(5, .ptr 0 0), (6, .d (.int .i64 (x58.Buses.length : Int))), (7, .d (.int .i64 x59)), (8, .row 2 x60.1.length 0 x60.1.length), (9, .d (.bool x60.2)), (42, .agg [.d (.cx .f32 x58.Source.A.re x58.Source.A.im), .d (.cx .f32 x58.Source.B.re x58.Source.B.im), .d (.cx .f32 x58.Source.C.re x58.Source.C.im), .row 1 x58.Buses.length 0 x58.Buses.length]), (43, .d (.int .i64 x59))]) (objs := [.box [.d (.cx .f32 x58.Source.A.re x58.Source.A.im), .d (.cx .f32 x58.Source.B.re x58.Source.B.im), .d (.cx .f32 x58.Source.C.re x58.Source.C.im), .row 1 x58.Buses.length 0 x58.Buses.length], .row 8 (x58.Buses.map eSBus), .row 1 (x60.1.map eInti64)]) rfl (by simp) rfl (by repeat' first | exact trivial | refine ⟨?_, ?_⟩) ⟨rfl, trivial, rfl, trivial, rfl, trivial, rfl, trivial, rfl, trivial, rfl, (by repeat' first | exact trivial | refine ⟨?_, ?_⟩), rfl, trivial, trivial⟩) ?_
    refine bnd_elim h fun x61 hx61 h => ?_
    refine awl_callP hτ true [] rfl rfl rfl (enterOk func16 rfl rfl) (mapO_cons (exV_agg (mapO_cons rfl (mapO_cons rfl (mapO_cons rfl (mapO_cons (exC_view (f := eSBus) x58.Buses rfl rfl rfl) mapO_nil))))) (mapO_cons rfl mapO_nil)) rfl (by simp) ⟨⟨trivial, trivial, trivial, (exP_view (f := eSBus) x58.Buses rfl rfl rfl)⟩, trivial, trivial⟩ (by repeat' first | exact trivial | refine ⟨?_, ?_⟩) (impl_BusesBelow_ok_fr n (SFeeder.mk x58.Source x58.Buses) x59 hx61) ?_
    rintro r0 o0 n0 ⟨rfl, rfl, rfl⟩ -
    refine awl_val hτ rfl rfl rfl ?_
    refine awl_val hτ rfl rfl rfl ?_
    refine awl_val hτ rfl rfl rfl ?_
    refine awl_val hτ rfl rfl rfl ?_
    refine awl_val hτ rfl rfl rfl ?_
    refine awl_nil ?_
    refine aw_seq ?_
    refine aw_weak (weak_ofP [0, 1, 2, 3] (l := [(5, .ptr 0 0), (6, .d (.int .i64 (x58.Buses.length : Int))), (7, .d (.int .i64 x59)), (8, .row 2 x60.1.length 0 x60.1.length), (9, .d (.bool x60.2)), (10, .row 3 x61.1.length 0 x61.1.length), (11, .d (.bool x61.2))]) (objs := [.box [.d (.cx .f32 x58.Source.A.re x58.Source.A.im), .d (.cx .f32 x58.Source.B.re x58.Source.B.im), .d (.cx .f32 x58.Source.C.re x58.Source.C.im), .row 1 x58.Buses.length 0 x58.Buses.length], .row 8 (x58.Buses.map eSBus), .row 1 (x60.1.map eInti64), .row 1 (x61.1.map eInti64)]) rfl (by simp) rfl (by repeat' first | exact trivial | refine ⟨?_, ?_⟩) ⟨rfl, trivial, rfl, trivial, rfl, trivial, rfl, trivial, rfl, trivial, rfl, trivial, rfl, trivial, trivial⟩) ?_
    refine aw_region ?_
    refine awl_val hτ rfl rfl rfl ?_
    refine awl_val hτ rfl rfl rfl ?_
    refine awl_weak (weak_ofP [0, 1, 2, 3] (l := [(5, .ptr 0 0), (6, .d (.int .i64 (x58.Buses.length : Int))), (7, .d (.int .i64 x59)), (8, .row 2 x60.1.length 0 x60.1.length), (9, .d (.bool x60.2)), (10, .row 3 x61.1.length 0 x61.1.length), (11, .d (.bool x61.2)), (48, .agg [.d (.cx .f32 x58.Source.A.re x58.Source.A.im), .d (.cx .f32 x58.Source.B.re x58.Source.B.im), .d (.cx .f32 x58.Source.C.re x58.Source.C.im), .row 1 x58.Buses.length 0 x58.Buses.length]), (49, .d (.int .i64 x59))]) (objs := [.box [.d (.cx .f32 x58.Source.A.re x58.Source.A.im), .d (.cx .f32 x58.Source.B.re x58.Source.B.im), .d (.cx .f32 x58.Source.C.re x58.Source.C.im), .row 1 x58.Buses.length 0 x58.Buses.length], .row 8 (x58.Buses.map eSBus), .row 1 (x60.1.map eInti64), .row 1 (x61.1.map eInti64)]) rfl (by simp) rfl (by repeat' first | exact trivial | refine ⟨?_, ?_⟩) ⟨rfl, trivial, rfl, trivial, rfl, trivial, rfl, trivial, rfl, trivial, rfl, trivial, rfl, trivial, rfl, (by repeat' first | exact trivial | refine ⟨?_, ?_⟩), rfl, trivial, trivial⟩) ?_
    refine bnd_elim h fun x62 hx62 h => ?_
    refine awl_callP hτ true [] rfl rfl rfl (enterOk func17 rfl rfl) (mapO_cons (exV_agg (mapO_cons rfl (mapO_cons rfl (mapO_cons rfl (mapO_cons (exC_view (f := eSBus) x58.Buses rfl rfl rfl) mapO_nil))))) (mapO_cons rfl mapO_nil)) rfl (by simp) ⟨⟨trivial, trivial, trivial, (exP_view (f := eSBus) x58.Buses rfl rfl rfl)⟩, trivial, trivial⟩ (by repeat' first | exact trivial | refine ⟨?_, ?_⟩) (impl_ChildrenOf_ok_fr n (SFeeder.mk x58.Source x58.Buses) x59 hx62) ?_
    rintro r0 o0 n0 ⟨rfl, rfl, rfl⟩ -
    refine awl_val hτ rfl rfl rfl ?_
    refine awl_val hτ rfl rfl rfl ?_
    refine awl_val hτ rfl rfl rfl ?_
    refine awl_val hτ rfl rfl rfl ?_
    refine awl_val hτ rfl rfl rfl ?_
    refine awl_nil ?_
    refine aw_seq ?_
    refine aw_weak (weak_ofP [0, 1, 2, 3, 4] (l := [(5, .ptr 0 0), (6, .d (.int .i64 (x58.Buses.length : Int))), (7, .d (.int .i64 x59)), (8, .row 2 x60.1.length 0 x60.1.length), (9, .d (.bool x60.2)), (10, .row 3 x61.1.length 0 x61.1.length), (11, .d (.bool x61.2)), (12, .row 4 x62.1.length 0 x62.1.length), (13, .d (.bool x62.2))]) (objs := [.box [.d (.cx .f32 x58.Source.A.re x58.Source.A.im), .d (.cx .f32 x58.Source.B.re x58.Source.B.im), .d (.cx .f32 x58.Source.C.re x58.Source.C.im), .row 1 x58.Buses.length 0 x58.Buses.length], .row 8 (x58.Buses.map eSBus), .row 1 (x60.1.map eInti64), .row 1 (x61.1.map eInti64), .row 1 (x62.1.map eInti64)]) rfl (by simp) rfl (by repeat' first | exact trivial | refine ⟨?_, ?_⟩) ⟨rfl, trivial, rfl, trivial, rfl, trivial, rfl, trivial, rfl, trivial, rfl, trivial, rfl, trivial, rfl, trivial, rfl, trivial, trivial⟩) ?_
    refine aw_region ?_
    refine awl_val hτ rfl rfl rfl ?_
    refine awl_weak (weak_ofP [0, 1, 2, 3, 4] (l := [(5, .ptr 0 0), (6, .d (.int .i64 (x58.Buses.length : Int))), (7, .d (.int .i64 x59)), (8, .row 2 x60.1.length 0 x60.1.length), (9, .d (.bool x60.2)), (10, .row 3 x61.1.length 0 x61.1.length), (11, .d (.bool x61.2)), (12, .row 4 x62.1.length 0 x62.1.length), (13, .d (.bool x62.2)), (54, .agg [.d (.cx .f32 x58.Source.A.re x58.Source.A.im), .d (.cx .f32 x58.Source.B.re x58.Source.B.im), .d (.cx .f32 x58.Source.C.re x58.Source.C.im), .row 1 x58.Buses.length 0 x58.Buses.length])]) (objs := [.box [.d (.cx .f32 x58.Source.A.re x58.Source.A.im), .d (.cx .f32 x58.Source.B.re x58.Source.B.im), .d (.cx .f32 x58.Source.C.re x58.Source.C.im), .row 1 x58.Buses.length 0 x58.Buses.length], .row 8 (x58.Buses.map eSBus), .row 1 (x60.1.map eInti64), .row 1 (x61.1.map eInti64), .row 1 (x62.1.map eInti64)]) rfl (by simp) rfl (by repeat' first | exact trivial | refine ⟨?_, ?_⟩) ⟨rfl, trivial, rfl, trivial, rfl, trivial, rfl, trivial, rfl, trivial, rfl, trivial, rfl, trivial, rfl, trivial, rfl, trivial, rfl, (by repeat' first | exact trivial | refine ⟨?_, ?_⟩), trivial⟩) ?_
    refine bnd_elim h fun x63 hx63 h => ?_
    refine awl_callP hτ true [] rfl rfl rfl (enterOk func18 rfl rfl) (mapO_cons (exV_agg (mapO_cons rfl (mapO_cons rfl (mapO_cons rfl (mapO_cons (exC_view (f := eSBus) x58.Buses rfl rfl rfl) mapO_nil))))) mapO_nil) rfl (by simp) ⟨⟨trivial, trivial, trivial, (exP_view (f := eSBus) x58.Buses rfl rfl rfl)⟩, trivial⟩ (by repeat' first | exact trivial | refine ⟨?_, ?_⟩) (impl_DepthOf_ok_fr n (SFeeder.mk x58.Source x58.Buses) hx63) ?_
    rintro r0 o0 n0 ⟨rfl, rfl, rfl⟩ -
    refine awl_val hτ rfl rfl rfl ?_
    refine awl_val hτ rfl rfl rfl ?_
    refine awl_val hτ rfl rfl rfl ?_
    refine awl_val hτ rfl rfl rfl ?_
    refine awl_val hτ rfl rfl rfl ?_
    refine awl_nil ?_
    refine aw_seq ?_
    refine aw_weak (weak_ofP [0, 1, 2, 3, 4] (l := [(5, .ptr 0 0), (6, .d (.int .i64 (x58.Buses.length : Int))), (7, .d (.int .i64 x59)), (8, .row 2 x60.1.length 0 x60.1.length), (9, .d (.bool x60.2)), (10, .row 3 x61.1.length 0 x61.1.length), (11, .d (.bool x61.2)), (12, .row 4 x62.1.length 0 x62.1.length), (13, .d (.bool x62.2)), (14, .d (.int .i64 x63.1)), (15, .d (.bool x63.2))]) (objs := [.box [.d (.cx .f32 x58.Source.A.re x58.Source.A.im), .d (.cx .f32 x58.Source.B.re x58.Source.B.im), .d (.cx .f32 x58.Source.C.re x58.Source.C.im), .row 1 x58.Buses.length 0 x58.Buses.length], .row 8 (x58.Buses.map eSBus), .row 1 (x60.1.map eInti64), .row 1 (x61.1.map eInti64), .row 1 (x62.1.map eInti64)]) rfl (by simp) rfl (by repeat' first | exact trivial | refine ⟨?_, ?_⟩) ⟨rfl, trivial, rfl, trivial, rfl, trivial, rfl, trivial, rfl, trivial, rfl, trivial, rfl, trivial, rfl, trivial, rfl, trivial, rfl, trivial, rfl, trivial, trivial⟩) ?_
    refine aw_region ?_
    refine awl_val hτ rfl rfl rfl ?_
    refine awl_weak (weak_ofP [0, 1, 2, 3, 4] (l := [(5, .ptr 0 0), (6, .d (.int .i64 (x58.Buses.length : Int))), (7, .d (.int .i64 x59)), (8, .row 2 x60.1.length 0 x60.1.length), (9, .d (.bool x60.2)), (10, .row 3 x61.1.length 0 x61.1.length), (11, .d (.bool x61.2)), (12, .row 4 x62.1.length 0 x62.1.length), (13, .d (.bool x62.2)), (14, .d (.int .i64 x63.1)), (15, .d (.bool x63.2)), (59, .agg [.d (.cx .f32 x58.Source.A.re x58.Source.A.im), .d (.cx .f32 x58.Source.B.re x58.Source.B.im), .d (.cx .f32 x58.Source.C.re x58.Source.C.im), .row 1 x58.Buses.length 0 x58.Buses.length])]) (objs := [.box [.d (.cx .f32 x58.Source.A.re x58.Source.A.im), .d (.cx .f32 x58.Source.B.re x58.Source.B.im), .d (.cx .f32 x58.Source.C.re x58.Source.C.im), .row 1 x58.Buses.length 0 x58.Buses.length], .row 8 (x58.Buses.map eSBus), .row 1 (x60.1.map eInti64), .row 1 (x61.1.map eInti64), .row 1 (x62.1.map eInti64)]) rfl (by simp) rfl (by repeat' first | exact trivial | refine ⟨?_, ?_⟩) ⟨rfl, trivial, rfl, trivial, rfl, trivial, rfl, trivial, rfl, trivial, rfl, trivial, rfl, trivial, rfl, trivial, rfl, trivial, rfl, trivial, rfl, trivial, rfl, (by repeat' first | exact trivial | refine ⟨?_, ?_⟩), trivial⟩) ?_
    refine bnd_elim h fun x64 hx64 h => ?_
    refine awl_callP hτ true [] rfl rfl rfl (enterOk func19 rfl rfl) (mapO_cons (exV_agg (mapO_cons rfl (mapO_cons rfl (mapO_cons rfl (mapO_cons (exC_view (f := eSBus) x58.Buses rfl rfl rfl) mapO_nil))))) mapO_nil) rfl (by simp) ⟨⟨trivial, trivial, trivial, (exP_view (f := eSBus) x58.Buses rfl rfl rfl)⟩, trivial⟩ (by repeat' first | exact trivial | refine ⟨?_, ?_⟩) (impl_CustomersBelow_ok_fr n (SFeeder.mk x58.Source x58.Buses) hx64) ?_
    rintro r0 o0 n0 ⟨rfl, rfl, rfl⟩ -
    refine awl_val hτ rfl rfl rfl ?_
    refine awl_val hτ rfl rfl rfl ?_
    refine awl_val hτ rfl rfl rfl ?_
    refine awl_val hτ rfl rfl rfl ?_
    refine awl_val hτ rfl rfl rfl ?_
    refine awl_nil ?_
    refine aw_hk1 (ι := Unit) (fun _ => St.of [(5, .ptr 0 0), (6, .d (.int .i64 (x58.Buses.length : Int))), (7, .d (.int .i64 x59)), (8, .row 2 x60.1.length 0 x60.1.length), (10, .row 3 x61.1.length 0 x61.1.length), (12, .row 4 x62.1.length 0 x62.1.length), (16, .row 5 x64.1.length 0 x64.1.length)] [.box [.d (.cx .f32 x58.Source.A.re x58.Source.A.im), .d (.cx .f32 x58.Source.B.re x58.Source.B.im), .d (.cx .f32 x58.Source.C.re x58.Source.C.im), .row 1 x58.Buses.length 0 x58.Buses.length], .row 8 (x58.Buses.map eSBus), .row 1 (x60.1.map eInti64), .row 1 (x61.1.map eInti64), .row 1 (x62.1.map eInti64), .row 1 (x64.1.map eInti64)] f3.ntmps 0) (fun _ => m_laws_FnTrees_j1 n x58 x59 x60 x61 x62 x64 = some r) ?_ (fun hk187 => ?_)
    · rintro ⟨⟩ h
      replace h : m_laws_FnTrees_j1 n x58 x59 x60 x61 x62 x64 = some r := h
      unfold m_laws_FnTrees_j1 at h
      refine aw_hk1 (ι := Unit) (fun _ => St.of [(5, .ptr 0 0), (6, .d (.int .i64 (x58.Buses.length : Int))), (7, .d (.int .i64 x59)), (10, .row 2 x61.1.length 0 x61.1.length), (12, .row 3 x62.1.length 0 x62.1.length), (16, .row 4 x64.1.length 0 x64.1.length)] [.box [.d (.cx .f32 x58.Source.A.re x58.Source.A.im), .d (.cx .f32 x58.Source.B.re x58.Source.B.im), .d (.cx .f32 x58.Source.C.re x58.Source.C.im), .row 1 x58.Buses.length 0 x58.Buses.length], .row 8 (x58.Buses.map eSBus), .row 1 (x61.1.map eInti64), .row 1 (x62.1.map eInti64), .row 1 (x64.1.map eInti64)] f3.ntmps 0) (fun _ => m_laws_FnTrees_j2 n x58 x59 x61 x62 x64 = some r) ?_ (fun hk168 => ?_)
      · rintro ⟨⟩ h
        replace h : m_laws_FnTrees_j2 n x58 x59 x61 x62 x64 = some r := h
        unfold m_laws_FnTrees_j2 at h
        refine aw_seq ?_
        refine aw_region ?_
        refine awl_val hτ rfl rfl rfl ?_
        refine awl_val hτ rfl rfl rfl ?_
        refine awl_val hτ rfl rfl rfl ?_
        refine bnd_elim h fun x87 hx87 h => ?_
        refine awl_need hτ rfl rfl rfl (row_need hx87) ?_
        refine awl_need hτ rfl rfl rfl (len_map _) ?_
        refine awl_elem hτ rfl rfl rfl (len_map _) (row_get hx87) rfl ?_
        refine awl_val hτ rfl rfl rfl ?_
        refine awl_nil ?_
        refine aw_hk1 (ι := Int) (fun v98 => St.of [(5, .ptr 0 0), (6, .d (.int .i64 (x58.Buses.length : Int))), (7, .d (.int .i64 x59)), (10, .row 2 x61.1.length 0 x61.1.length), (16, .row 3 x64.1.length 0 x64.1.length), (19, .d (.int .i64 v98))] [.box [.d (.cx .f32 x58.Source.A.re x58.Source.A.im), .d (.cx .f32 x58.Source.B.re x58.Source.B.im), .d (.cx .f32 x58.Source.C.re x58.Source.C.im), .row 1 x58.Buses.length 0 x58.Buses.length], .row 8 (x58.Buses.map eSBus), .row 1 (x61.1.map eInti64), .row 1 (x64.1.map eInti64)] f3.ntmps 0) (fun v98 => m_laws_FnTrees_j3 n x58 x59 x61 x64 v98 = some r) ?_ (fun hk145 => ?_)
        · rintro v98 h
          replace h : m_laws_FnTrees_j3 n x58 x59 x61 x64 v98 = some r := h
          unfold m_laws_FnTrees_j3 at h
          refine aw_hk1 (ι := Unit) (fun _ => St.of [(7, .d (.int .i64 x59)), (16, .row 0 x64.1.length 0 x64.1.length), (19, .d (.int .i64 v98))] [.row 1 (x64.1.map eInti64)] f3.ntmps 0) (fun _ => m_laws_FnTrees_j4 n x59 x64 v98 = some r) ?_ (fun hk112 => ?_)
          · rintro ⟨⟩ h
            replace h : m_laws_FnTrees_j4 n x59 x64 v98 = some r := h
            unfold m_laws_FnTrees_j4 at h
            refine aw_seq ?_
            refine aw_region ?_
            refine awl_val hτ rfl rfl rfl ?_
            refine awl_val hτ rfl rfl rfl ?_
            refine awl_val hτ rfl rfl rfl ?_
            refine bnd_elim h fun x111 hx111 h => ?_
            refine awl_need hτ rfl rfl rfl (row_need hx111) ?_
            refine awl_elem hτ rfl rfl rfl (len_map _) (row_get hx111) rfl ?_
            refine awl_val hτ (v := .d (.bool (decide (v98 = x111)))) rfl rfl (or_ieq _ _) ?_
            refine awl_val hτ rfl rfl rfl ?_
            refine awl_nil ?_
            refine aw_weak (weak_ofP [] (l := [(4, .d (.bool (decide (v98 = x111))))]) (objs := []) rfl (by simp) rfl (by repeat' first | exact trivial | refine ⟨?_, ?_⟩) ⟨rfl, trivial, trivial⟩) ?_
            refine aw_ret ?_
            have hr := Option.some.inj h
            subst hr
            exact ret_objs (.inr rfl) [] (objs' := []) (new := []) rfl (by simp) (by simp) rfl (by repeat' first | exact trivial | refine ⟨?_, ?_⟩) rfl rfl (by repeat' first | exact trivial | refine ⟨?_, ?_⟩) (fun _ => ⟨by simp [V.flat, V.flatA, V.flatC, D.flat], flat_nil⟩) ⟨rfl, rfl, rfl⟩
          · refine aw_seq ?_
            refine aw_seq ?_
            refine aw_region ?_
            refine awl_val hτ rfl rfl rfl ?_
            refine awl_nil ?_
            refine aw_block ?_
            refine aw_loop (ι := Nat × Int) (fun (m125, v118) => St.of [(5, .ptr 0 0), (6, .d (.int .i64 (x58.Buses.length : Int))), (7, .d (.int .i64 x59)), (10, .row 2 x61.1.length 0 x61.1.length), (16, .row 3 x64.1.length 0 x64.1.length), (19, .d (.int .i64 v98)), (21, .d (.int .i64 v118))] [.box [.d (.cx .f32 x58.Source.A.re x58.Source.A.im), .d (.cx .f32 x58.Source.B.re x58.Source.B.im), .d (.cx .f32 x58.Source.C.re x58.Source.C.im), .row 1 x58.Buses.length 0 x58.Buses.length], .row 8 (x58.Buses.map eSBus), .row 1 (x61.1.map eInti64), .row 1 (x64.1.map eInti64)] f3.ntmps 0) (fun (m125, v118) => m_laws_FnTrees_l5 n x58 x59 x61 x64 v98 m125 v118 = some r) (fun x => x.1) (n, (0 : Int)) h (weak_ofP [0, 1, 2, 3] (l := [(5, .ptr 0 0), (6, .d (.int .i64 (x58.Buses.length : Int))), (7, .d (.int .i64 x59)), (10, .row 2 x61.1.length 0 x61.1.length), (16, .row 3 x64.1.length 0 x64.1.length), (19, .d (.int .i64 v98)), (21, .d (.int .i64 (0 : Int)))]) (objs := [.box [.d (.cx .f32 x58.Source.A.re x58.Source.A.im), .d (.cx .f32 x58.Source.B.re x58.Source.B.im), .d (.cx .f32 x58.Source.C.re x58.Source.C.im), .row 1 x58.Buses.length 0 x58.Buses.length], .row 8 (x58.Buses.map eSBus), .row 1 (x61.1.map eInti64), .row 1 (x64.1.map eInti64)]) rfl (by simp) rfl (by repeat' first | exact trivial | refine ⟨?_, ?_⟩) ⟨rfl, trivial, rfl, trivial, rfl, trivial, rfl, trivial, rfl, trivial, rfl, trivial, rfl, trivial, trivial⟩) ?_
            rintro ⟨m125, v118⟩ h
            replace h : m_laws_FnTrees_l5 n x58 x59 x61 x64 v98 m125 v118 = some r := h
            rcases m125 with _ | m125
            · rw [m_laws_FnTrees_l5] at h; cases h
            rw [m_laws_FnTrees_l5] at h
            refine aw_seq ?_
            refine aw_seq ?_
            refine aw_region ?_
            refine awl_val hτ rfl rfl rfl ?_
            refine awl_val hτ rfl rfl rfl ?_
            refine awl_val hτ rfl rfl rfl ?_
            refine awl_nil ?_
            refine aw_cond rfl (fun hc127 => ?_) (fun hc127 => ?_)
            · have h := if_t h hc127
              refine aw_skip ?_
              refine aw_hk1 (ι := Unit) (fun _ => St.of [(5, .ptr 0 0), (6, .d (.int .i64 (x58.Buses.length : Int))), (7, .d (.int .i64 x59)), (10, .row 2 x61.1.length 0 x61.1.length), (16, .row 3 x64.1.length 0 x64.1.length), (19, .d (.int .i64 v98)), (21, .d (.int .i64 v118))] [.box [.d (.cx .f32 x58.Source.A.re x58.Source.A.im), .d (.cx .f32 x58.Source.B.re x58.Source.B.im), .d (.cx .f32 x58.Source.C.re x58.Source.C.im), .row 1 x58.Buses.length 0 x58.Buses.length], .row 8 (x58.Buses.map eSBus), .row 1 (x61.1.map eInti64), .row 1 (x64.1.map eInti64)] f3.ntmps 0) (fun _ => m_laws_FnTrees_j6 n (m_laws_FnTrees_l5 n x58 x59 x61 x64 v98 m125) v118 = some r) ?_ (fun hk133 => ?_)
              · rintro ⟨⟩ h
                replace h : m_laws_FnTrees_j6 n (m_laws_FnTrees_l5 n x58 x59 x61 x64 v98 m125) v118 = some r := h
                unfold m_laws_FnTrees_j6 at h
                refine aw_region ?_
                refine awl_val hτ rfl rfl rfl ?_
                refine awl_val hτ rfl rfl rfl ?_
                refine awl_val hτ rfl rfl rfl ?_
                refine awl_nil ?_
                exact ⟨(m125, (w64 (v118 + (1 : Int)))), h, Nat.lt_succ_self m125, (weak_ofP [0, 1, 2, 3] (l := [(5, .ptr 0 0), (6, .d (.int .i64 (x58.Buses.length : Int))), (7, .d (.int .i64 x59)), (10, .row 2 x61.1.length 0 x61.1.length), (16, .row 3 x64.1.length 0 x64.1.length), (19, .d (.int .i64 v98)), (21, .d (.int .i64 (w64 (v118 + (1 : Int)))))]) (objs := [.box [.d (.cx .f32 x58.Source.A.re x58.Source.A.im), .d (.cx .f32 x58.Source.B.re x58.Source.B.im), .d (.cx .f32 x58.Source.C.re x58.Source.C.im), .row 1 x58.Buses.length 0 x58.Buses.length], .row 8 (x58.Buses.map eSBus), .row 1 (x61.1.map eInti64), .row 1 (x64.1.map eInti64)]) rfl (by simp) rfl (by repeat' first | exact trivial | refine ⟨?_, ?_⟩) ⟨rfl, trivial, rfl, trivial, rfl, trivial, rfl, trivial, rfl, trivial, rfl, trivial, rfl, trivial, trivial⟩)⟩
              · refine aw_seq ?_
                refine aw_block ?_
                refine aw_seq ?_
                refine aw_region ?_
                refine awl_val hτ rfl rfl rfl ?_
                refine awl_val hτ rfl rfl rfl ?_
                refine awl_weak (weak_ofP [0, 1, 2, 3] (l := [(5, .ptr 0 0), (6, .d (.int .i64 (x58.Buses.length : Int))), (7, .d (.int .i64 x59)), (10, .row 2 x61.1.length 0 x61.1.length), (16, .row 3 x64.1.length 0 x64.1.length), (19, .d (.int .i64 v98)), (21, .d (.int .i64 v118)), (178, .agg [.d (.cx .f32 x58.Source.A.re x58.Source.A.im), .d (.cx .f32 x58.Source.B.re x58.Source.B.im), .d (.cx .f32 x58.Source.C.re x58.Source.C.im), .row 1 x58.Buses.length 0 x58.Buses.length]), (179, .d (.int .i64 v118))]) (objs := [.box [.d (.cx .f32 x58.Source.A.re x58.Source.A.im), .d (.cx .f32 x58.Source.B.re x58.Source.B.im), .d (.cx .f32 x58.Source.C.re x58.Source.C.im), .row 1 x58.Buses.length 0 x58.Buses.length], .row 8 (x58.Buses.map eSBus), .row 1 (x61.1.map eInti64), .row 1 (x64.1.map eInti64)]) rfl (by simp) rfl (by repeat' first | exact trivial | refine ⟨?_, ?_⟩) ⟨rfl, trivial, rfl, trivial, rfl, trivial, rfl, trivial, rfl, trivial, rfl, trivial, rfl, trivial, rfl, (by repeat' first | exact trivial | refine ⟨?_, ?_⟩), rfl, trivial, trivial⟩) ?_
                refine bnd_elim h fun x134 hx134 h => ?_
                refine awl_callP hτ true [] rfl rfl rfl (enterOk func15 rfl rfl) (mapO_cons (exV_agg (mapO_cons rfl (mapO_cons rfl (mapO_cons rfl (mapO_cons (exC_view (f := eSBus) x58.Buses rfl rfl rfl) mapO_nil))))) (mapO_cons rfl mapO_nil)) rfl (by simp) ⟨⟨trivial, trivial, trivial, (exP_view (f := eSBus) x58.Buses rfl rfl rfl)⟩, trivial, trivial⟩ (by repeat' first | exact trivial | refine ⟨?_, ?_⟩) (impl_PathTo_ok_fr n (SFeeder.mk x58.Source x58.Buses) v118 hx134) ?_
                rintro r0 o0 n0 ⟨rfl, rfl, rfl⟩ -
                refine awl_val hτ rfl rfl rfl ?_
                refine awl_val hτ rfl rfl rfl ?_
                refine awl_val hτ rfl rfl rfl ?_
                refine awl_val hτ rfl rfl rfl ?_
                refine awl_val hτ rfl rfl rfl ?_
                refine awl_nil ?_
                refine aw_hk1 (ι := Bool) (fun v139 => St.of [(5, .ptr 0 0), (6, .d (.int .i64 (x58.Buses.length : Int))), (7, .d (.int .i64 x59)), (10, .row 2 x61.1.length 0 x61.1.length), (16, .row 3 x64.1.length 0 x64.1.length), (19, .d (.int .i64 v98)), (21, .d (.int .i64 v118)), (193, .d (.bool v139))] [.box [.d (.cx .f32 x58.Source.A.re x58.Source.A.im), .d (.cx .f32 x58.Source.B.re x58.Source.B.im), .d (.cx .f32 x58.Source.C.re x58.Source.C.im), .row 1 x58.Buses.length 0 x58.Buses.length], .row 8 (x58.Buses.map eSBus), .row 1 (x61.1.map eInti64), .row 1 (x64.1.map eInti64)] f3.ntmps 0) (fun v139 => m_laws_FnTrees_j7 n (m_laws_FnTrees_l5 n x58 x59 x61 x64 v98 m125) v118 v139 = some r) ?_ (fun hk141 => ?_)
                · rintro v139 h
                  replace h : m_laws_FnTrees_j7 n (m_laws_FnTrees_l5 n x58 x59 x61 x64 v98 m125) v118 v139 = some r := h
                  unfold m_laws_FnTrees_j7 at h
                  refine aw_cond rfl (fun hc140 => ?_) (fun hc140 => ?_)
                  · have h := if_bt h hc140
                    refine aw_seq ?_
                    refine aw_region ?_
                    refine awl_val hτ rfl rfl rfl ?_
                    refine awl_nil ?_
                    refine aw_weak (weak_ofP [] (l := [(4, .d (.bool false))]) (objs := []) rfl (by simp) rfl (by repeat' first | exact trivial | refine ⟨?_, ?_⟩) ⟨rfl, trivial, trivial⟩) ?_
                    refine aw_ret ?_
                    have hr := Option.some.inj h
                    subst hr
                    exact ret_objs (.inr rfl) [] (objs' := []) (new := []) rfl (by simp) (by simp) rfl (by repeat' first | exact trivial | refine ⟨?_, ?_⟩) rfl rfl (by repeat' first | exact trivial | refine ⟨?_, ?_⟩) (fun _ => ⟨by simp [V.flat, V.flatA, V.flatC, D.flat], flat_nil⟩) ⟨rfl, rfl, rfl⟩
                  · have h := if_bf h hc140
                    refine aw_skip ?_
                    refine aw_weak (weak_ofP [0, 1, 2, 3] (l := [(5, .ptr 0 0), (6, .d (.int .i64 (x58.Buses.length : Int))), (7, .d (.int .i64 x59)), (10, .row 2 x61.1.length 0 x61.1.length), (16, .row 3 x64.1.length 0 x64.1.length), (19, .d (.int .i64 v98)), (21, .d (.int .i64 v118))]) (objs := [.box [.d (.cx .f32 x58.Source.A.re x58.Source.A.im), .d (.cx .f32 x58.Source.B.re x58.Source.B.im), .d (.cx .f32 x58.Source.C.re x58.Source.C.im), .row 1 x58.Buses.length 0 x58.Buses.length], .row 8 (x58.Buses.map eSBus), .row 1 (x61.1.map eInti64), .row 1 (x64.1.map eInti64)]) rfl (by simp) rfl (by repeat' first | exact trivial | refine ⟨?_, ?_⟩) ⟨rfl, trivial, rfl, trivial, rfl, trivial, rfl, trivial, rfl, trivial, rfl, trivial, rfl, trivial, trivial⟩) ?_
                    exact hk133 () h
                · refine aw_seq ?_
                  refine aw_weak (weak_ofP [0, 1, 2, 3, 4] (l := [(5, .ptr 0 0), (6, .d (.int .i64 (x58.Buses.length : Int))), (7, .d (.int .i64 x59)), (10, .row 2 x61.1.length 0 x61.1.length), (16, .row 3 x64.1.length 0 x64.1.length), (19, .d (.int .i64 v98)), (21, .d (.int .i64 v118)), (22, .row 4 x134.1.length 0 x134.1.length), (23, .d (.bool x134.2))]) (objs := [.box [.d (.cx .f32 x58.Source.A.re x58.Source.A.im), .d (.cx .f32 x58.Source.B.re x58.Source.B.im), .d (.cx .f32 x58.Source.C.re x58.Source.C.im), .row 1 x58.Buses.length 0 x58.Buses.length], .row 8 (x58.Buses.map eSBus), .row 1 (x61.1.map eInti64), .row 1 (x64.1.map eInti64), .row 1 (x134.1.map eInti64)]) rfl (by simp) rfl (by repeat' first | exact trivial | refine ⟨?_, ?_⟩) ⟨rfl, trivial, rfl, trivial, rfl, trivial, rfl, trivial, rfl, trivial, rfl, trivial, rfl, trivial, rfl, trivial, rfl, trivial, trivial⟩) ?_
                  refine aw_region ?_
                  refine awl_val hτ rfl rfl rfl ?_
                  refine awl_val hτ rfl rfl rfl ?_
                  refine awl_val hτ rfl rfl rfl ?_
                  refine awl_split 185 rfl (fun hb142 => ?_) (fun hb142 => ?_)
                  · have hb142 := not_t hb142
                    have h := if_bf h hb142
                    refine awl_skip rfl rfl ?_
                    refine awl_skip rfl rfl ?_
                    refine awl_skip rfl rfl ?_
                    refine awl_skip rfl rfl ?_
                    refine awl_skip rfl rfl ?_
                    refine awl_skip rfl rfl ?_
                    refine awl_skip rfl rfl ?_
                    refine awl_val hτ rfl rfl rfl ?_
                    refine awl_nil ?_
                    refine aw_weak (weak_ofP [0, 1, 2, 3] (l := [(5, .ptr 0 0), (6, .d (.int .i64 (x58.Buses.length : Int))), (7, .d (.int .i64 x59)), (10, .row 2 x61.1.length 0 x61.1.length), (16, .row 3 x64.1.length 0 x64.1.length), (19, .d (.int .i64 v98)), (21, .d (.int .i64 v118)), (193, .d (.bool true))]) (objs := [.box [.d (.cx .f32 x58.Source.A.re x58.Source.A.im), .d (.cx .f32 x58.Source.B.re x58.Source.B.im), .d (.cx .f32 x58.Source.C.re x58.Source.C.im), .row 1 x58.Buses.length 0 x58.Buses.length], .row 8 (x58.Buses.map eSBus), .row 1 (x61.1.map eInti64), .row 1 (x64.1.map eInti64)]) rfl (by simp) rfl (by repeat' first | exact trivial | refine ⟨?_, ?_⟩) ⟨rfl, trivial, rfl, trivial, rfl, trivial, rfl, trivial, rfl, trivial, rfl, trivial, rfl, trivial, rfl, trivial, trivial⟩) ?_
                    exact hk141 true h
                  · have hb142 := not_f hb142
                    have h := if_bt h hb142
                    refine awl_val hτ rfl rfl rfl ?_
                    refine awl_val hτ rfl rfl rfl ?_
                    refine awl_weak (weak_ofP [0, 1, 2, 3, 4] (l := [(5, .ptr 0 0), (6, .d (.int .i64 (x58.Buses.length : Int))), (7, .d (.int .i64 x59)), (10, .row 2 x61.1.length 0 x61.1.length), (16, .row 3 x64.1.length 0 x64.1.length), (19, .d (.int .i64 v98)), (21, .d (.int .i64 v118)), (22, .row 4 x134.1.length 0 x134.1.length), (185, .d (.bool false)), (186, .row 2 x61.1.length 0 x61.1.length), (187, .d (.int .i64 v118))]) (objs := [.box [.d (.cx .f32 x58.Source.A.re x58.Source.A.im), .d (.cx .f32 x58.Source.B.re x58.Source.B.im), .d (.cx .f32 x58.Source.C.re x58.Source.C.im), .row 1 x58.Buses.length 0 x58.Buses.length], .row 8 (x58.Buses.map eSBus), .row 1 (x61.1.map eInti64), .row 1 (x64.1.map eInti64), .row 1 (x134.1.map eInti64)]) rfl (by simp) rfl (by repeat' first | exact trivial | refine ⟨?_, ?_⟩) ⟨rfl, trivial, rfl, trivial, rfl, trivial, rfl, trivial, rfl, trivial, rfl, trivial, rfl, trivial, rfl, trivial, rfl, trivial, rfl, trivial, rfl, trivial, trivial⟩) ?_
                    refine bnd_elim h fun x143 hx143 h => ?_
                    refine awl_callP hτ true [] rfl rfl rfl (enterOk func21 rfl rfl) (mapO_cons (exV_view (f := eInti64) x61.1 rfl rfl rfl) (mapO_cons rfl mapO_nil)) rfl (by simp) ⟨(exVP_view (f := eInti64) x61.1 rfl rfl rfl), trivial, trivial⟩ (by repeat' first | exact trivial | refine ⟨?_, ?_⟩) (laws_r8In_ok_fr n x61.1 v118 hx143) ?_
                    rintro r0 o0 n0 ⟨rfl, rfl, rfl⟩ -
                    refine awl_val hτ rfl rfl rfl ?_
                    refine awl_val hτ rfl rfl rfl ?_
                    refine awl_weak (weak_ofP [0, 1, 2, 3, 4] (l := [(5, .ptr 0 0), (6, .d (.int .i64 (x58.Buses.length : Int))), (7, .d (.int .i64 x59)), (10, .row 2 x61.1.length 0 x61.1.length), (16, .row 3 x64.1.length 0 x64.1.length), (19, .d (.int .i64 v98)), (21, .d (.int .i64 v118)), (185, .d (.bool false)), (188, .d (.bool x143)), (189, .row 4 x134.1.length 0 x134.1.length), (190, .d (.int .i64 x59))]) (objs := [.box [.d (.cx .f32 x58.Source.A.re x58.Source.A.im), .d (.cx .f32 x58.Source.B.re x58.Source.B.im), .d (.cx .f32 x58.Source.C.re x58.Source.C.im), .row 1 x58.Buses.length 0 x58.Buses.length], .row 8 (x58.Buses.map eSBus), .row 1 (x61.1.map eInti64), .row 1 (x64.1.map eInti64), .row 1 (x134.1.map eInti64)]) rfl (by simp) rfl (by repeat' first | exact trivial | refine ⟨?_, ?_⟩) ⟨rfl, trivial, rfl, trivial, rfl, trivial, rfl, trivial, rfl, trivial, rfl, trivial, rfl, trivial, rfl, trivial, rfl, trivial, rfl, trivial, rfl, trivial, trivial⟩) ?_
                    refine bnd_elim h fun x144 hx144 h => ?_
                    refine awl_callP hτ true [] rfl rfl rfl (enterOk func21 rfl rfl) (mapO_cons (exV_view (f := eInti64) x134.1 rfl rfl rfl) (mapO_cons rfl mapO_nil)) rfl (by simp) ⟨(exVP_view (f := eInti64) x134.1 rfl rfl rfl), trivial, trivial⟩ (by repeat' first | exact trivial | refine ⟨?_, ?_⟩) (laws_r8In_ok_fr n x134.1 x59 hx144) ?_
                    rintro r0 o0 n0 ⟨rfl, rfl, rfl⟩ -
                    refine awl_val hτ rfl rfl rfl ?_
                    refine awl_val hτ rfl rfl rfl ?_
                    refine awl_nil ?_
                    refine aw_weak (weak_ofP [0, 1, 2, 3] (l := [(5, .ptr 0 0), (6, .d (.int .i64 (x58.Buses.length : Int))), (7, .d (.int .i64 x59)), (10, .row 2 x61.1.length 0 x61.1.length), (16, .row 3 x64.1.length 0 x64.1.length), (19, .d (.int .i64 v98)), (21, .d (.int .i64 v118)), (193, .d (.bool (!(x143 == x144))))]) (objs := [.box [.d (.cx .f32 x58.Source.A.re x58.Source.A.im), .d (.cx .f32 x58.Source.B.re x58.Source.B.im), .d (.cx .f32 x58.Source.C.re x58.Source.C.im), .row 1 x58.Buses.length 0 x58.Buses.length], .row 8 (x58.Buses.map eSBus), .row 1 (x61.1.map eInti64), .row 1 (x64.1.map eInti64)]) rfl (by simp) rfl (by repeat' first | exact trivial | refine ⟨?_, ?_⟩) ⟨rfl, trivial, rfl, trivial, rfl, trivial, rfl, trivial, rfl, trivial, rfl, trivial, rfl, trivial, rfl, trivial, trivial⟩) ?_
                    exact hk141 (!(x143 == x144)) h
            · have h := if_f h hc127
              refine aw_exit ?_
              refine aw_weak (weak_ofP [3] (l := [(7, .d (.int .i64 x59)), (16, .row 0 x64.1.length 0 x64.1.length), (19, .d (.int .i64 v98))]) (objs := [.row 1 (x64.1.map eInti64)]) rfl (by simp) rfl (by repeat' first | exact trivial | refine ⟨?_, ?_⟩) ⟨rfl, trivial, rfl, trivial, rfl, trivial, trivial⟩) ?_
              exact hk112 () h
        · refine aw_seq ?_
          refine aw_seq ?_
          refine aw_weak (weak_ofP [0, 1, 2, 3, 4] (l := [(5, .ptr 0 0), (6, .d (.int .i64 (x58.Buses.length : Int))), (7, .d (.int .i64 x59)), (10, .row 2 x61.1.length 0 x61.1.length), (12, .row 3 x62.1.length 0 x62.1.length), (16, .row 4 x64.1.length 0 x64.1.length), (19, .d (.int .i64 x87.Customers))]) (objs := [.box [.d (.cx .f32 x58.Source.A.re x58.Source.A.im), .d (.cx .f32 x58.Source.B.re x58.Source.B.im), .d (.cx .f32 x58.Source.C.re x58.Source.C.im), .row 1 x58.Buses.length 0 x58.Buses.length], .row 8 (x58.Buses.map eSBus), .row 1 (x61.1.map eInti64), .row 1 (x62.1.map eInti64), .row 1 (x64.1.map eInti64)]) rfl (by simp) rfl (by repeat' first | exact trivial | refine ⟨?_, ?_⟩) ⟨rfl, trivial, rfl, trivial, rfl, trivial, rfl, trivial, rfl, trivial, rfl, trivial, rfl, trivial, trivial⟩) ?_
          refine aw_region ?_
          refine awl_val hτ rfl rfl rfl ?_
          refine awl_nil ?_
          refine aw_block ?_
          refine aw_loop (ι := Nat × Int × Int) (fun (m156, v149, v150) => St.of [(5, .ptr 0 0), (6, .d (.int .i64 (x58.Buses.length : Int))), (7, .d (.int .i64 x59)), (10, .row 2 x61.1.length 0 x61.1.length), (12, .row 3 x62.1.length 0 x62.1.length), (16, .row 4 x64.1.length 0 x64.1.length), (19, .d (.int .i64 v149)), (20, .d (.int .i64 v150))] [.box [.d (.cx .f32 x58.Source.A.re x58.Source.A.im), .d (.cx .f32 x58.Source.B.re x58.Source.B.im), .d (.cx .f32 x58.Source.C.re x58.Source.C.im), .row 1 x58.Buses.length 0 x58.Buses.length], .row 8 (x58.Buses.map eSBus), .row 1 (x61.1.map eInti64), .row 1 (x62.1.map eInti64), .row 1 (x64.1.map eInti64)] f3.ntmps 0) (fun (m156, v149, v150) => m_laws_FnTrees_l8 n x58 x59 x61 x62 x64 m156 v149 v150 = some r) (fun x => x.1) (n, x87.Customers, (0 : Int)) h (weak_ofP [0, 1, 2, 3, 4] (l := [(5, .ptr 0 0), (6, .d (.int .i64 (x58.Buses.length : Int))), (7, .d (.int .i64 x59)), (10, .row 2 x61.1.length 0 x61.1.length), (12, .row 3 x62.1.length 0 x62.1.length), (16, .row 4 x64.1.length 0 x64.1.length), (19, .d (.int .i64 x87.Customers)), (20, .d (.int .i64 (0 : Int)))]) (objs := [.box [.d (.cx .f32 x58.Source.A.re x58.Source.A.im), .d (.cx .f32 x58.Source.B.re x58.Source.B.im), .d (.cx .f32 x58.Source.C.re x58.Source.C.im), .row 1 x58.Buses.length 0 x58.Buses.length], .row 8 (x58.Buses.map eSBus), .row 1 (x61.1.map eInti64), .row 1 (x62.1.map eInti64), .row 1 (x64.1.map eInti64)]) rfl (by simp) rfl (by repeat' first | exact trivial | refine ⟨?_, ?_⟩) ⟨rfl, trivial, rfl, trivial, rfl, trivial, rfl, trivial, rfl, trivial, rfl, trivial, rfl, trivial, rfl, trivial, trivial⟩) ?_
          rintro ⟨m156, v149, v150⟩ h
          replace h : m_laws_FnTrees_l8 n x58 x59 x61 x62 x64 m156 v149 v150 = some r := h
          rcases m156 with _ | m156
          · rw [m_laws_FnTrees_l8] at h; cases h
          rw [m_laws_FnTrees_l8] at h
          refine aw_seq ?_
          refine aw_seq ?_
          refine aw_region ?_
          refine awl_val hτ rfl rfl rfl ?_
          refine awl_val hτ rfl rfl rfl ?_
          refine awl_need hτ rfl rfl rfl (len_map _) ?_
          refine awl_val hτ rfl rfl rfl ?_
          refine awl_nil ?_
          refine aw_cond rfl (fun hc158 => ?_) (fun hc158 => ?_)
          · have h := if_t h hc158
            refine aw_skip ?_
            refine aw_seq ?_
            refine aw_block ?_
            refine aw_seq ?_
            refine aw_seq ?_
            refine any_start ?_
            refine any_val hτ [0] 0 rfl rfl rfl rfl rfl ?_
            refine any_val hτ [0] 1 rfl rfl rfl rfl rfl ?_
            refine any_val hτ [] 2 rfl rfl rfl rfl rfl ?_
            refine any_val hτ [] 3 rfl rfl rfl rfl rfl ?_
            refine bnd_elim h fun x164 hx164 h => ?_
            refine any_need hτ [3] 4 rfl rfl rfl rfl rfl (row_need hx164) ?_
            refine any_elem hτ [3] 5 rfl rfl rfl rfl rfl (len_map _) (row_get hx164) rfl ?_
            refine bnd_elim h fun x165 hx165 h => ?_
            refine any_need hτ [1] 6 rfl rfl rfl rfl rfl (row_need hx165) ?_
            refine any_need hτ [1] 7 rfl rfl rfl rfl rfl (len_map _) ?_
            refine any_elem hτ [1] 8 rfl rfl rfl rfl rfl (len_map _) (row_get hx165) rfl ?_
            refine any_val hτ [] 9 rfl rfl rfl rfl rfl ?_
            refine any_val hτ (v := .d (.bool (!(decide (x165.Parent = x59))))) [] 10 rfl rfl rfl rfl (or_ine _ _) ?_
            refine any_done mixed (by kernel_rfl) ?_
            refine aw_weak (weak_ofP [0, 1, 2, 3, 4] (l := [(5, .ptr 0 0), (6, .d (.int .i64 (x58.Buses.length : Int))), (7, .d (.int .i64 x59)), (10, .row 2 x61.1.length 0 x61.1.length), (12, .row 3 x62.1.length 0 x62.1.length), (16, .row 4 x64.1.length 0 x64.1.length), (19, .d (.int .i64 v149)), (20, .d (.int .i64 v150)), (162, .d (.bool (!(decide (x165.Parent = x59)))))]) (objs := [.box [.d (.cx .f32 x58.Source.A.re x58.Source.A.im), .d (.cx .f32 x58.Source.B.re x58.Source.B.im), .d (.cx .f32 x58.Source.C.re x58.Source.C.im), .row 1 x58.Buses.length 0 x58.Buses.length], .row 8 (x58.Buses.map eSBus), .row 1 (x61.1.map eInti64), .row 1 (x62.1.map eInti64), .row 1 (x64.1.map eInti64)]) rfl (by simp) rfl (by repeat' first | exact trivial | refine ⟨?_, ?_⟩) ⟨rfl, trivial, rfl, trivial, rfl, trivial, rfl, trivial, rfl, trivial, rfl, trivial, rfl, trivial, rfl, trivial, rfl, trivial, trivial⟩) ?_
            refine aw_cond rfl (fun hc166 => ?_) (fun hc166 => ?_)
            · have hc166 := not_t hc166
              have h := if_f h hc166
              refine aw_seq ?_
              refine aw_region ?_
              refine awl_val hτ rfl rfl rfl ?_
              refine awl_nil ?_
              refine aw_weak (weak_ofP [] (l := [(4, .d (.bool false))]) (objs := []) rfl (by simp) rfl (by repeat' first | exact trivial | refine ⟨?_, ?_⟩) ⟨rfl, trivial, trivial⟩) ?_
              refine aw_ret ?_
              have hr := Option.some.inj h
              subst hr
              exact ret_objs (.inr rfl) [] (objs' := []) (new := []) rfl (by simp) (by simp) rfl (by repeat' first | exact trivial | refine ⟨?_, ?_⟩) rfl rfl (by repeat' first | exact trivial | refine ⟨?_, ?_⟩) (fun _ => ⟨by simp [V.flat, V.flatA, V.flatC, D.flat], flat_nil⟩) ⟨rfl, rfl, rfl⟩
            · have hc166 := not_f hc166
              have h := if_t h hc166
              refine aw_skip ?_
              refine aw_region ?_
              refine awl_val hτ rfl rfl rfl ?_
              refine awl_val hτ rfl rfl rfl ?_
              refine awl_val hτ rfl rfl rfl ?_
              refine awl_val hτ rfl rfl rfl ?_
              refine awl_need hτ rfl rfl rfl (row_need hx164) ?_
              refine awl_elem hτ rfl rfl rfl (len_map _) (row_get hx164) rfl ?_
              refine bnd_elim h fun x167 hx167 h => ?_
              refine awl_need hτ rfl rfl rfl (row_need hx167) ?_
              refine awl_elem hτ rfl rfl rfl (len_map _) (row_get hx167) rfl ?_
              refine awl_val hτ rfl rfl rfl ?_
              refine awl_val hτ rfl rfl rfl ?_
              refine awl_nil ?_
              refine aw_weak (weak_ofP [0, 1, 2, 3, 4] (l := [(5, .ptr 0 0), (6, .d (.int .i64 (x58.Buses.length : Int))), (7, .d (.int .i64 x59)), (10, .row 2 x61.1.length 0 x61.1.length), (12, .row 3 x62.1.length 0 x62.1.length), (16, .row 4 x64.1.length 0 x64.1.length), (19, .d (.int .i64 (w64 (v149 + x167)))), (20, .d (.int .i64 v150))]) (objs := [.box [.d (.cx .f32 x58.Source.A.re x58.Source.A.im), .d (.cx .f32 x58.Source.B.re x58.Source.B.im), .d (.cx .f32 x58.Source.C.re x58.Source.C.im), .row 1 x58.Buses.length 0 x58.Buses.length], .row 8 (x58.Buses.map eSBus), .row 1 (x61.1.map eInti64), .row 1 (x62.1.map eInti64), .row 1 (x64.1.map eInti64)]) rfl (by simp) rfl (by repeat' first | exact trivial | refine ⟨?_, ?_⟩) ⟨rfl, trivial, rfl, trivial, rfl, trivial, rfl, trivial, rfl, trivial, rfl, trivial, rfl, trivial, rfl, trivial, trivial⟩) ?_
              refine aw_region ?_
              refine awl_val hτ rfl rfl rfl ?_
              refine awl_val hτ rfl rfl rfl ?_
              refine awl_val hτ rfl rfl rfl ?_
              refine awl_nil ?_
              exact ⟨(m156, (w64 (v149 + x167)), (w64 (v150 + (1 : Int)))), h, Nat.lt_succ_self m156, (weak_ofP [0, 1, 2, 3, 4] (l := [(5, .ptr 0 0), (6, .d (.int .i64 (x58.Buses.length : Int))), (7, .d (.int .i64 x59)), (10, .row 2 x61.1.length 0 x61.1.length), (12, .row 3 x62.1.length 0 x62.1.length), (16, .row 4 x64.1.length 0 x64.1.length), (19, .d (.int .i64 (w64 (v149 + x167)))), (20, .d (.int .i64 (w64 (v150 + (1 : Int)))))]) (objs := [.box [.d (.cx .f32 x58.Source.A.re x58.Source.A.im), .d (.cx .f32 x58.Source.B.re x58.Source.B.im), .d (.cx .f32 x58.Source.C.re x58.Source.C.im), .row 1 x58.Buses.length 0 x58.Buses.length], .row 8 (x58.Buses.map eSBus), .row 1 (x61.1.map eInti64), .row 1 (x62.1.map eInti64), .row 1 (x64.1.map eInti64)]) rfl (by simp) rfl (by repeat' first | exact trivial | refine ⟨?_, ?_⟩) ⟨rfl, trivial, rfl, trivial, rfl, trivial, rfl, trivial, rfl, trivial, rfl, trivial, rfl, trivial, rfl, trivial, trivial⟩)⟩
          · have h := if_f h hc158
            refine aw_exit ?_
            refine aw_weak (weak_ofP [0, 1, 2, 4] (l := [(5, .ptr 0 0), (6, .d (.int .i64 (x58.Buses.length : Int))), (7, .d (.int .i64 x59)), (10, .row 2 x61.1.length 0 x61.1.length), (16, .row 3 x64.1.length 0 x64.1.length), (19, .d (.int .i64 v149))]) (objs := [.box [.d (.cx .f32 x58.Source.A.re x58.Source.A.im), .d (.cx .f32 x58.Source.B.re x58.Source.B.im), .d (.cx .f32 x58.Source.C.re x58.Source.C.im), .row 1 x58.Buses.length 0 x58.Buses.length], .row 8 (x58.Buses.map eSBus), .row 1 (x61.1.map eInti64), .row 1 (x64.1.map eInti64)]) rfl (by simp) rfl (by repeat' first | exact trivial | refine ⟨?_, ?_⟩) ⟨rfl, trivial, rfl, trivial, rfl, trivial, rfl, trivial, rfl, trivial, rfl, trivial, trivial⟩) ?_
            exact hk145 v149 h
      · refine aw_seq ?_
        refine aw_seq ?_
        refine aw_region ?_
        refine awl_val hτ rfl rfl rfl ?_
        refine awl_nil ?_
        refine aw_block ?_
        refine aw_loop (ι := Nat × Int) (fun (m177, v172) => St.of [(5, .ptr 0 0), (6, .d (.int .i64 (x58.Buses.length : Int))), (7, .d (.int .i64 x59)), (8, .row 2 x60.1.length 0 x60.1.length), (10, .row 3 x61.1.length 0 x61.1.length), (12, .row 4 x62.1.length 0 x62.1.length), (16, .row 5 x64.1.length 0 x64.1.length), (18, .d (.int .i64 v172))] [.box [.d (.cx .f32 x58.Source.A.re x58.Source.A.im), .d (.cx .f32 x58.Source.B.re x58.Source.B.im), .d (.cx .f32 x58.Source.C.re x58.Source.C.im), .row 1 x58.Buses.length 0 x58.Buses.length], .row 8 (x58.Buses.map eSBus), .row 1 (x60.1.map eInti64), .row 1 (x61.1.map eInti64), .row 1 (x62.1.map eInti64), .row 1 (x64.1.map eInti64)] f3.ntmps 0) (fun (m177, v172) => m_laws_FnTrees_l9 n x58 x59 x60 x61 x62 x64 m177 v172 = some r) (fun x => x.1) (n, (1 : Int)) h (weak_ofP [0, 1, 2, 3, 4, 5] (l := [(5, .ptr 0 0), (6, .d (.int .i64 (x58.Buses.length : Int))), (7, .d (.int .i64 x59)), (8, .row 2 x60.1.length 0 x60.1.length), (10, .row 3 x61.1.length 0 x61.1.length), (12, .row 4 x62.1.length 0 x62.1.length), (16, .row 5 x64.1.length 0 x64.1.length), (18, .d (.int .i64 (1 : Int)))]) (objs := [.box [.d (.cx .f32 x58.Source.A.re x58.Source.A.im), .d (.cx .f32 x58.Source.B.re x58.Source.B.im), .d (.cx .f32 x58.Source.C.re x58.Source.C.im), .row 1 x58.Buses.length 0 x58.Buses.length], .row 8 (x58.Buses.map eSBus), .row 1 (x60.1.map eInti64), .row 1 (x61.1.map eInti64), .row 1 (x62.1.map eInti64), .row 1 (x64.1.map eInti64)]) rfl (by simp) rfl (by repeat' first | exact trivial | refine ⟨?_, ?_⟩) ⟨rfl, trivial, rfl, trivial, rfl, trivial, rfl, trivial, rfl, trivial, rfl, trivial, rfl, trivial, rfl, trivial, trivial⟩) ?_
        rintro ⟨m177, v172⟩ h
        replace h : m_laws_FnTrees_l9 n x58 x59 x60 x61 x62 x64 m177 v172 = some r := h
        rcases m177 with _ | m177
        · rw [m_laws_FnTrees_l9] at h; cases h
        rw [m_laws_FnTrees_l9] at h
        refine aw_seq ?_
        refine aw_seq ?_
        refine aw_region ?_
        refine awl_val hτ rfl rfl rfl ?_
        refine awl_val hτ rfl rfl rfl ?_
        refine awl_need hτ rfl rfl rfl (len_map _) ?_
        refine awl_val hτ rfl rfl rfl ?_
        refine awl_nil ?_
        refine aw_cond rfl (fun hc179 => ?_) (fun hc179 => ?_)
        · have h := if_t h hc179
          refine aw_skip ?_
          refine aw_seq ?_
          refine aw_block ?_
          refine aw_seq ?_
          refine any_start ?_
          refine any_val hτ [0] 0 rfl rfl rfl rfl rfl ?_
          refine any_val hτ [0] 1 rfl rfl rfl rfl rfl ?_
          refine any_val hτ [] 2 rfl rfl rfl rfl rfl ?_
          refine any_val hτ [] 3 rfl rfl rfl rfl rfl ?_
          refine bnd_elim h fun x183 hx183 h => ?_
          refine any_need hτ [2] 4 rfl rfl rfl rfl rfl (row_need hx183) ?_
          refine any_elem hτ [2] 5 rfl rfl rfl rfl rfl (len_map _) (row_get hx183) rfl ?_
          refine bnd_elim h fun x184 hx184 h => ?_
          refine any_need hτ [1] 6 rfl rfl rfl rfl rfl (row_need hx184) ?_
          refine any_need hτ [1] 7 rfl rfl rfl rfl rfl (len_map _) ?_
          refine any_elem hτ [1] 8 rfl rfl rfl rfl rfl (len_map _) (row_get hx184) rfl ?_
          refine any_val hτ [] 9 rfl rfl rfl rfl rfl ?_
          refine any_val hτ [] 10 rfl rfl rfl rfl rfl ?_
          refine any_val hτ [] 11 rfl rfl rfl rfl rfl ?_
          refine bnd_elim h fun x185 hx185 h => ?_
          refine any_need hτ [2] 12 rfl rfl rfl rfl rfl (row_need hx185) ?_
          refine any_elem hτ [2] 13 rfl rfl rfl rfl rfl (len_map _) (row_get hx185) rfl ?_
          refine any_val hτ (v := .d (.bool (!(decide (x184.Parent = x185))))) [] 14 rfl rfl rfl rfl (or_ine _ _) ?_
          refine any_done mixed (by kernel_rfl) ?_
          refine aw_weak (weak_ofP [0, 1, 2, 3, 4, 5] (l := [(5, .ptr 0 0), (6, .d (.int .i64 (x58.Buses.length : Int))), (7, .d (.int .i64 x59)), (8, .row 2 x60.1.length 0 x60.1.length), (10, .row 3 x61.1.length 0 x61.1.length), (12, .row 4 x62.1.length 0 x62.1.length), (16, .row 5 x64.1.length 0 x64.1.length), (18, .d (.int .i64 v172)), (139, .d (.bool (!(decide (x184.Parent = x185)))))]) (objs := [.box [.d (.cx .f32 x58.Source.A.re x58.Source.A.im), .d (.cx .f32 x58.Source.B.re x58.Source.B.im), .d (.cx .f32 x58.Source.C.re x58.Source.C.im), .row 1 x58.Buses.length 0 x58.Buses.length], .row 8 (x58.Buses.map eSBus), .row 1 (x60.1.map eInti64), .row 1 (x61.1.map eInti64), .row 1 (x62.1.map eInti64), .row 1 (x64.1.map eInti64)]) rfl (by simp) rfl (by repeat' first | exact trivial | refine ⟨?_, ?_⟩) ⟨rfl, trivial, rfl, trivial, rfl, trivial, rfl, trivial, rfl, trivial, rfl, trivial, rfl, trivial, rfl, trivial, rfl, trivial, trivial⟩) ?_
          refine aw_cond rfl (fun hc186 => ?_) (fun hc186 => ?_)
          · have hc186 := not_t hc186
            have h := if_f h hc186
            refine aw_seq ?_
            refine aw_region ?_
            refine awl_val hτ rfl rfl rfl ?_
            refine awl_nil ?_
            refine aw_weak (weak_ofP [] (l := [(4, .d (.bool false))]) (objs := []) rfl (by simp) rfl (by repeat' first | exact trivial | refine ⟨?_, ?_⟩) ⟨rfl, trivial, trivial⟩) ?_
            refine aw_ret ?_
            have hr := Option.some.inj h
            subst hr
            exact ret_objs (.inr rfl) [] (objs' := []) (new := []) rfl (by simp) (by simp) rfl (by repeat' first | exact trivial | refine ⟨?_, ?_⟩) rfl rfl (by repeat' first | exact trivial | refine ⟨?_, ?_⟩) (fun _ => ⟨by simp [V.flat, V.flatA, V.flatC, D.flat], flat_nil⟩) ⟨rfl, rfl, rfl⟩
          · have hc186 := not_f hc186
            have h := if_t h hc186
            refine aw_skip ?_
            refine aw_region ?_
            refine awl_val hτ rfl rfl rfl ?_
            refine awl_val hτ rfl rfl rfl ?_
            refine awl_val hτ rfl rfl rfl ?_
            refine awl_nil ?_
            exact ⟨(m177, (w64 (v172 + (1 : Int)))), h, Nat.lt_succ_self m177, (weak_ofP [0, 1, 2, 3, 4, 5] (l := [(5, .ptr 0 0), (6, .d (.int .i64 (x58.Buses.length : Int))), (7, .d (.int .i64 x59)), (8, .row 2 x60.1.length 0 x60.1.length), (10, .row 3 x61.1.length 0 x61.1.length), (12, .row 4 x62.1.length 0 x62.1.length), (16, .row 5 x64.1.length 0 x64.1.length), (18, .d (.int .i64 (w64 (v172 + (1 : Int)))))]) (objs := [.box [.d (.cx .f32 x58.Source.A.re x58.Source.A.im), .d (.cx .f32 x58.Source.B.re x58.Source.B.im), .d (.cx .f32 x58.Source.C.re x58.Source.C.im), .row 1 x58.Buses.length 0 x58.Buses.length], .row 8 (x58.Buses.map eSBus), .row 1 (x60.1.map eInti64), .row 1 (x61.1.map eInti64), .row 1 (x62.1.map eInti64), .row 1 (x64.1.map eInti64)]) rfl (by simp) rfl (by repeat' first | exact trivial | refine ⟨?_, ?_⟩) ⟨rfl, trivial, rfl, trivial, rfl, trivial, rfl, trivial, rfl, trivial, rfl, trivial, rfl, trivial, rfl, trivial, trivial⟩)⟩
        · have h := if_f h hc179
          refine aw_exit ?_
          refine aw_weak (weak_ofP [0, 1, 3, 4, 5] (l := [(5, .ptr 0 0), (6, .d (.int .i64 (x58.Buses.length : Int))), (7, .d (.int .i64 x59)), (10, .row 2 x61.1.length 0 x61.1.length), (12, .row 3 x62.1.length 0 x62.1.length), (16, .row 4 x64.1.length 0 x64.1.length)]) (objs := [.box [.d (.cx .f32 x58.Source.A.re x58.Source.A.im), .d (.cx .f32 x58.Source.B.re x58.Source.B.im), .d (.cx .f32 x58.Source.C.re x58.Source.C.im), .row 1 x58.Buses.length 0 x58.Buses.length], .row 8 (x58.Buses.map eSBus), .row 1 (x61.1.map eInti64), .row 1 (x62.1.map eInti64), .row 1 (x64.1.map eInti64)]) rfl (by simp) rfl (by repeat' first | exact trivial | refine ⟨?_, ?_⟩) ⟨rfl, trivial, rfl, trivial, rfl, trivial, rfl, trivial, rfl, trivial, rfl, trivial, trivial⟩) ?_
          exact hk168 () h
    · refine aw_seq ?_
      refine aw_hk1 (ι := Bool) (fun v202 => St.of [(5, .ptr 0 0), (6, .d (.int .i64 (x58.Buses.length : Int))), (7, .d (.int .i64 x59)), (8, .row 2 x60.1.length 0 x60.1.length), (10, .row 3 x61.1.length 0 x61.1.length), (12, .row 4 x62.1.length 0 x62.1.length), (16, .row 5 x64.1.length 0 x64.1.length), (118, .d (.bool v202))] [.box [.d (.cx .f32 x58.Source.A.re x58.Source.A.im), .d (.cx .f32 x58.Source.B.re x58.Source.B.im), .d (.cx .f32 x58.Source.C.re x58.Source.C.im), .row 1 x58.Buses.length 0 x58.Buses.length], .row 8 (x58.Buses.map eSBus), .row 1 (x60.1.map eInti64), .row 1 (x61.1.map eInti64), .row 1 (x62.1.map eInti64), .row 1 (x64.1.map eInti64)] f3.ntmps 0) (fun v202 => m_laws_FnTrees_j10 n x58 x59 x60 x61 x62 x64 v202 = some r) ?_ (fun hk204 => ?_)
      · rintro v202 h
        replace h : m_laws_FnTrees_j10 n x58 x59 x60 x61 x62 x64 v202 = some r := h
        unfold m_laws_FnTrees_j10 at h
        refine aw_cond rfl (fun hc203 => ?_) (fun hc203 => ?_)
        · have h := if_bt h hc203
          refine aw_seq ?_
          refine aw_region ?_
          refine awl_val hτ rfl rfl rfl ?_
          refine awl_nil ?_
          refine aw_weak (weak_ofP [] (l := [(4, .d (.bool false))]) (objs := []) rfl (by simp) rfl (by repeat' first | exact trivial | refine ⟨?_, ?_⟩) ⟨rfl, trivial, trivial⟩) ?_
          refine aw_ret ?_
          have hr := Option.some.inj h
          subst hr
          exact ret_objs (.inr rfl) [] (objs' := []) (new := []) rfl (by simp) (by simp) rfl (by repeat' first | exact trivial | refine ⟨?_, ?_⟩) rfl rfl (by repeat' first | exact trivial | refine ⟨?_, ?_⟩) (fun _ => ⟨by simp [V.flat, V.flatA, V.flatC, D.flat], flat_nil⟩) ⟨rfl, rfl, rfl⟩
        · have h := if_bf h hc203
          refine aw_skip ?_
          refine aw_weak (weak_ofP [0, 1, 2, 3, 4, 5] (l := [(5, .ptr 0 0), (6, .d (.int .i64 (x58.Buses.length : Int))), (7, .d (.int .i64 x59)), (8, .row 2 x60.1.length 0 x60.1.length), (10, .row 3 x61.1.length 0 x61.1.length), (12, .row 4 x62.1.length 0 x62.1.length), (16, .row 5 x64.1.length 0 x64.1.length)]) (objs := [.box [.d (.cx .f32 x58.Source.A.re x58.Source.A.im), .d (.cx .f32 x58.Source.B.re x58.Source.B.im), .d (.cx .f32 x58.Source.C.re x58.Source.C.im), .row 1 x58.Buses.length 0 x58.Buses.length], .row 8 (x58.Buses.map eSBus), .row 1 (x60.1.map eInti64), .row 1 (x61.1.map eInti64), .row 1 (x62.1.map eInti64), .row 1 (x64.1.map eInti64)]) rfl (by simp) rfl (by repeat' first | exact trivial | refine ⟨?_, ?_⟩) ⟨rfl, trivial, rfl, trivial, rfl, trivial, rfl, trivial, rfl, trivial, rfl, trivial, rfl, trivial, trivial⟩) ?_
          exact hk187 () h
      · refine aw_seq ?_
        refine aw_weak (weak_ofP [0, 1, 2, 3, 4, 5] (l := [(5, .ptr 0 0), (6, .d (.int .i64 (x58.Buses.length : Int))), (7, .d (.int .i64 x59)), (8, .row 2 x60.1.length 0 x60.1.length), (9, .d (.bool x60.2)), (10, .row 3 x61.1.length 0 x61.1.length), (11, .d (.bool x61.2)), (12, .row 4 x62.1.length 0 x62.1.length), (13, .d (.bool x62.2)), (14, .d (.int .i64 x63.1)), (15, .d (.bool x63.2)), (16, .row 5 x64.1.length 0 x64.1.length), (17, .d (.bool x64.2))]) (objs := [.box [.d (.cx .f32 x58.Source.A.re x58.Source.A.im), .d (.cx .f32 x58.Source.B.re x58.Source.B.im), .d (.cx .f32 x58.Source.C.re x58.Source.C.im), .row 1 x58.Buses.length 0 x58.Buses.length], .row 8 (x58.Buses.map eSBus), .row 1 (x60.1.map eInti64), .row 1 (x61.1.map eInti64), .row 1 (x62.1.map eInti64), .row 1 (x64.1.map eInti64)]) rfl (by simp) rfl (by repeat' first | exact trivial | refine ⟨?_, ?_⟩) ⟨rfl, trivial, rfl, trivial, rfl, trivial, rfl, trivial, rfl, trivial, rfl, trivial, rfl, trivial, rfl, trivial, rfl, trivial, rfl, trivial, rfl, trivial, rfl, trivial, rfl, trivial, trivial⟩) ?_
        refine aw_region ?_
        refine awl_val hτ rfl rfl rfl ?_
        refine awl_val hτ rfl rfl rfl ?_
        refine awl_val hτ rfl rfl rfl ?_
        refine awl_split 65 rfl (fun hb205 => ?_) (fun hb205 => ?_)
        · have hb205 := not_t hb205
          have h := if_bf h hb205
          refine awl_skip rfl rfl ?_
          refine awl_skip rfl rfl ?_
          refine awl_val hτ rfl rfl rfl ?_
          refine awl_val hτ rfl rfl rfl ?_
          refine awl_skip rfl rfl ?_
          refine awl_skip rfl rfl ?_
          refine awl_val hτ rfl rfl rfl ?_
          refine awl_val hτ rfl rfl rfl ?_
          refine awl_skip rfl rfl ?_
          refine awl_weak (weak_ofP [0, 1, 2, 3, 4, 5] (l := [(5, .ptr 0 0), (6, .d (.int .i64 (x58.Buses.length : Int))), (7, .d (.int .i64 x59)), (8, .row 2 x60.1.length 0 x60.1.length), (10, .row 3 x61.1.length 0 x61.1.length), (12, .row 4 x62.1.length 0 x62.1.length), (14, .d (.int .i64 x63.1)), (16, .row 5 x64.1.length 0 x64.1.length), (17, .d (.bool x64.2)), (73, .d (.bool true)), (74, .und)]) (objs := [.box [.d (.cx .f32 x58.Source.A.re x58.Source.A.im), .d (.cx .f32 x58.Source.B.re x58.Source.B.im), .d (.cx .f32 x58.Source.C.re x58.Source.C.im), .row 1 x58.Buses.length 0 x58.Buses.length], .row 8 (x58.Buses.map eSBus), .row 1 (x60.1.map eInti64), .row 1 (x61.1.map eInti64), .row 1 (x62.1.map eInti64), .row 1 (x64.1.map eInti64)]) rfl (by simp) rfl (by repeat' first | exact trivial | refine ⟨?_, ?_⟩) ⟨rfl, trivial, rfl, trivial, rfl, trivial, rfl, trivial, rfl, trivial, rfl, trivial, rfl, trivial, rfl, trivial, rfl, trivial, rfl, trivial, rfl, trivial, trivial⟩) ?_
          refine awl_skip rfl rfl ?_
          refine awl_val hτ rfl rfl rfl ?_
          refine awl_val hτ rfl rfl rfl ?_
          refine awl_skip rfl rfl ?_
          refine awl_skip rfl rfl ?_
          refine awl_val hτ rfl rfl rfl ?_
          refine awl_val hτ rfl rfl rfl ?_
          refine awl_skip rfl rfl ?_
          refine awl_skip rfl rfl ?_
          refine awl_skip rfl rfl ?_
          refine awl_val hτ rfl rfl rfl ?_
          refine awl_val hτ rfl rfl rfl ?_
          refine awl_weak (weak_ofP [0, 1, 2, 3, 4, 5] (l := [(5, .ptr 0 0), (6, .d (.int .i64 (x58.Buses.length : Int))), (7, .d (.int .i64 x59)), (8, .row 2 x60.1.length 0 x60.1.length), (10, .row 3 x61.1.length 0 x61.1.length), (12, .row 4 x62.1.length 0 x62.1.length), (14, .d (.int .i64 x63.1)), (16, .row 5 x64.1.length 0 x64.1.length), (86, .d (.bool true))]) (objs := [.box [.d (.cx .f32 x58.Source.A.re x58.Source.A.im), .d (.cx .f32 x58.Source.B.re x58.Source.B.im), .d (.cx .f32 x58.Source.C.re x58.Source.C.im), .row 1 x58.Buses.length 0 x58.Buses.length], .row 8 (x58.Buses.map eSBus), .row 1 (x60.1.map eInti64), .row 1 (x61.1.map eInti64), .row 1 (x62.1.map eInti64), .row 1 (x64.1.map eInti64)]) rfl (by simp) rfl (by repeat' first | exact trivial | refine ⟨?_, ?_⟩) ⟨rfl, trivial, rfl, trivial, rfl, trivial, rfl, trivial, rfl, trivial, rfl, trivial, rfl, trivial, rfl, trivial, rfl, trivial, trivial⟩) ?_
          refine awl_skip rfl rfl ?_
          refine awl_skip rfl rfl ?_
          refine awl_skip rfl rfl ?_
          refine awl_val hτ rfl rfl rfl ?_
          refine awl_val hτ rfl rfl rfl ?_
          refine awl_skip rfl rfl ?_
          refine awl_skip rfl rfl ?_
          refine awl_skip rfl rfl ?_
          refine awl_skip rfl rfl ?_
          refine awl_val hτ rfl rfl rfl ?_
          refine awl_val hτ rfl rfl rfl ?_
          refine awl_skip rfl rfl ?_
          refine awl_weak (weak_ofP [0, 1, 2, 3, 4, 5] (l := [(5, .ptr 0 0), (6, .d (.int .i64 (x58.Buses.length : Int))), (7, .d (.int .i64 x59)), (8, .row 2 x60.1.length 0 x60.1.length), (10, .row 3 x61.1.length 0 x61.1.length), (12, .row 4 x62.1.length 0 x62.1.length), (14, .d (.int .i64 x63.1)), (16, .row 5 x64.1.length 0 x64.1.length), (97, .d (.bool true)), (98, .und)]) (objs := [.box [.d (.cx .f32 x58.Source.A.re x58.Source.A.im), .d (.cx .f32 x58.Source.B.re x58.Source.B.im), .d (.cx .f32 x58.Source.C.re x58.Source.C.im), .row 1 x58.Buses.length 0 x58.Buses.length], .row 8 (x58.Buses.map eSBus), .row 1 (x60.1.map eInti64), .row 1 (x61.1.map eInti64), .row 1 (x62.1.map eInti64), .row 1 (x64.1.map eInti64)]) rfl (by simp) rfl (by repeat' first | exact trivial | refine ⟨?_, ?_⟩) ⟨rfl, trivial, rfl, trivial, rfl, trivial, rfl, trivial, rfl, trivial, rfl, trivial, rfl, trivial, rfl, trivial, rfl, trivial, rfl, trivial, trivial⟩) ?_
          refine awl_skip rfl rfl ?_
          refine awl_skip rfl rfl ?_
          refine awl_skip rfl rfl ?_
          refine awl_skip rfl rfl ?_
          refine awl_skip rfl rfl ?_
          refine awl_skip rfl rfl ?_
          refine awl_skip rfl rfl ?_
          refine awl_val hτ rfl rfl rfl ?_
          refine awl_val hτ rfl rfl rfl ?_
          refine awl_skip rfl rfl ?_
          refine awl_skip rfl rfl ?_
          refine awl_skip rfl rfl ?_
          refine awl_weak (weak_ofP [0, 1, 2, 3, 4, 5] (l := [(5, .ptr 0 0), (6, .d (.int .i64 (x58.Buses.length : Int))), (7, .d (.int .i64 x59)), (8, .row 2 x60.1.length 0 x60.1.length), (10, .row 3 x61.1.length 0 x61.1.length), (12, .row 4 x62.1.length 0 x62.1.length), (16, .row 5 x64.1.length 0 x64.1.length), (107, .d (.bool true)), (109, .und), (110, .und)]) (objs := [.box [.d (.cx .f32 x58.Source.A.re x58.Source.A.im), .d (.cx .f32 x58.Source.B.re x58.Source.B.im), .d (.cx .f32 x58.Source.C.re x58.Source.C.im), .row 1 x58.Buses.length 0 x58.Buses.length], .row 8 (x58.Buses.map eSBus), .row 1 (x60.1.map eInti64), .row 1 (x61.1.map eInti64), .row 1 (x62.1.map eInti64), .row 1 (x64.1.map eInti64)]) rfl (by simp) rfl (by repeat' first | exact trivial | refine ⟨?_, ?_⟩) ⟨rfl, trivial, rfl, trivial, rfl, trivial, rfl, trivial, rfl, trivial, rfl, trivial, rfl, trivial, rfl, trivial, rfl, trivial, rfl, trivial, trivial⟩) ?_
          refine awl_skip rfl rfl ?_
          refine awl_val hτ rfl rfl rfl ?_
          refine awl_val hτ rfl rfl rfl ?_
          refine awl_skip rfl rfl ?_
          refine awl_skip rfl rfl ?_
          refine awl_skip rfl rfl ?_
          refine awl_skip rfl rfl ?_
          refine awl_val hτ rfl rfl rfl ?_
          refine awl_nil ?_
          refine aw_weak (weak_ofP [0, 1, 2, 3, 4, 5] (l := [(5, .ptr 0 0), (6, .d (.int .i64 (x58.Buses.length : Int))), (7, .d (.int .i64 x59)), (8, .row 2 x60.1.length 0 x60.1.length), (10, .row 3 x61.1.length 0 x61.1.length), (12, .row 4 x62.1.length 0 x62.1.length), (16, .row 5 x64.1.length 0 x64.1.length), (118, .d (.bool true))]) (objs := [.box [.d (.cx .f32 x58.Source.A.re x58.Source.A.im), .d (.cx .f32 x58.Source.B.re x58.Source.B.im), .d (.cx .f32 x58.Source.C.re x58.Source.C.im), .row 1 x58.Buses.length 0 x58.Buses.length], .row 8 (x58.Buses.map eSBus), .row 1 (x60.1.map eInti64), .row 1 (x61.1.map eInti64), .row 1 (x62.1.map eInti64), .row 1 (x64.1.map eInti64)]) rfl (by simp) rfl (by repeat' first | exact trivial | refine ⟨?_, ?_⟩) ⟨rfl, trivial, rfl, trivial, rfl, trivial, rfl, trivial, rfl, trivial, rfl, trivial, rfl, trivial, rfl, trivial, trivial⟩) ?_
          exact hk204 true h
        · have hb205 := not_f hb205
          have h := if_bt h hb205
          refine awl_val hτ rfl rfl rfl ?_
          refine awl_val hτ rfl rfl rfl ?_
          refine awl_val hτ rfl rfl rfl ?_
          refine awl_val hτ rfl rfl rfl ?_
          refine awl_split 69 rfl (fun hb206 => ?_) (fun hb206 => ?_)
          · have hb206 := not_t hb206
            have h := if_bf h hb206
            refine awl_skip rfl rfl ?_
            refine awl_skip rfl rfl ?_
            refine awl_val hτ rfl rfl rfl ?_
            refine awl_val hτ rfl rfl rfl ?_
            refine awl_skip rfl rfl ?_
            refine awl_weak (weak_ofP [0, 1, 2, 3, 4, 5] (l := [(5, .ptr 0 0), (6, .d (.int .i64 (x58.Buses.length : Int))), (7, .d (.int .i64 x59)), (8, .row 2 x60.1.length 0 x60.1.length), (10, .row 3 x61.1.length 0 x61.1.length), (12, .row 4 x62.1.length 0 x62.1.length), (14, .d (.int .i64 x63.1)), (16, .row 5 x64.1.length 0 x64.1.length), (17, .d (.bool x64.2)), (73, .d (.bool true)), (74, .und)]) (objs := [.box [.d (.cx .f32 x58.Source.A.re x58.Source.A.im), .d (.cx .f32 x58.Source.B.re x58.Source.B.im), .d (.cx .f32 x58.Source.C.re x58.Source.C.im), .row 1 x58.Buses.length 0 x58.Buses.length], .row 8 (x58.Buses.map eSBus), .row 1 (x60.1.map eInti64), .row 1 (x61.1.map eInti64), .row 1 (x62.1.map eInti64), .row 1 (x64.1.map eInti64)]) rfl (by simp) rfl (by repeat' first | exact trivial | refine ⟨?_, ?_⟩) ⟨rfl, trivial, rfl, trivial, rfl, trivial, rfl, trivial, rfl, trivial, rfl, trivial, rfl, trivial, rfl, trivial, rfl, trivial, rfl, trivial, rfl, trivial, trivial⟩) ?_
            refine awl_skip rfl rfl ?_
            refine awl_val hτ rfl rfl rfl ?_
            refine awl_val hτ rfl rfl rfl ?_
            refine awl_skip rfl rfl ?_
            refine awl_skip rfl rfl ?_
            refine awl_val hτ rfl rfl rfl ?_
            refine awl_val hτ rfl rfl rfl ?_
            refine awl_skip rfl rfl ?_
            refine awl_skip rfl rfl ?_
            refine awl_skip rfl rfl ?_
            refine awl_val hτ rfl rfl rfl ?_
            refine awl_val hτ rfl rfl rfl ?_
            refine awl_weak (weak_ofP [0, 1, 2, 3, 4, 5] (l := [(5, .ptr 0 0), (6, .d (.int .i64 (x58.Buses.length : Int))), (7, .d (.int .i64 x59)), (8, .row 2 x60.1.length 0 x60.1.length), (10, .row 3 x61.1.length 0 x61.1.length), (12, .row 4 x62.1.length 0 x62.1.length), (14, .d (.int .i64 x63.1)), (16, .row 5 x64.1.length 0 x64.1.length), (86, .d (.bool true))]) (objs := [.box [.d (.cx .f32 x58.Source.A.re x58.Source.A.im), .d (.cx .f32 x58.Source.B.re x58.Source.B.im), .d (.cx .f32 x58.Source.C.re x58.Source.C.im), .row 1 x58.Buses.length 0 x58.Buses.length], .row 8 (x58.Buses.map eSBus), .row 1 (x60.1.map eInti64), .row 1 (x61.1.map eInti64), .row 1 (x62.1.map eInti64), .row 1 (x64.1.map eInti64)]) rfl (by simp) rfl (by repeat' first | exact trivial | refine ⟨?_, ?_⟩) ⟨rfl, trivial, rfl, trivial, rfl, trivial, rfl, trivial, rfl, trivial, rfl, trivial, rfl, trivial, rfl, trivial, rfl, trivial, trivial⟩) ?_
            refine awl_skip rfl rfl ?_
            refine awl_skip rfl rfl ?_
            refine awl_skip rfl rfl ?_
            refine awl_val hτ rfl rfl rfl ?_
            refine awl_val hτ rfl rfl rfl ?_
            refine awl_skip rfl rfl ?_
            refine awl_skip rfl rfl ?_
            refine awl_skip rfl rfl ?_
            refine awl_skip rfl rfl ?_
            refine awl_val hτ rfl rfl rfl ?_
            refine awl_val hτ rfl rfl rfl ?_
            refine awl_skip rfl rfl ?_
            refine awl_weak (weak_ofP [0, 1, 2, 3, 4, 5] (l := [(5, .ptr 0 0), (6, .d (.int .i64 (x58.Buses.length : Int))), (7, .d (.int .i64 x59)), (8, .row 2 x60.1.length 0 x60.1.length), (10, .row 3 x61.1.length 0 x61.1.length), (12, .row 4 x62.1.length 0 x62.1.length), (14, .d (.int .i64 x63.1)), (16, .row 5 x64.1.length 0 x64.1.length), (97, .d (.bool true)), (98, .und)]) (objs := [.box [.d (.cx .f32 x58.Source.A.re x58.Source.A.im), .d (.cx .f32 x58.Source.B.re x58.Source.B.im), .d (.cx .f32 x58.Source.C.re x58.Source.C.im), .row 1 x58.Buses.length 0 x58.Buses.length], .row 8 (x58.Buses.map eSBus), .row 1 (x60.1.map eInti64), .row 1 (x61.1.map eInti64), .row 1 (x62.1.map eInti64), .row 1 (x64.1.map eInti64)]) rfl (by simp) rfl (by repeat' first | exact trivial | refine ⟨?_, ?_⟩) ⟨rfl, trivial, rfl, trivial, rfl, trivial, rfl, trivial, rfl, trivial, rfl, trivial, rfl, trivial, rfl, trivial, rfl, trivial, rfl, trivial, trivial⟩) ?_
            refine awl_skip rfl rfl ?_
            refine awl_skip rfl rfl ?_
            refine awl_skip rfl rfl ?_
            refine awl_skip rfl rfl ?_
            refine awl_skip rfl rfl ?_
            refine awl_skip rfl rfl ?_
            refine awl_skip rfl rfl ?_
            refine awl_val hτ rfl rfl rfl ?_
            refine awl_val hτ rfl rfl rfl ?_
            refine awl_skip rfl rfl ?_
            refine awl_skip rfl rfl ?_
            refine awl_skip rfl rfl ?_
            refine awl_weak (weak_ofP [0, 1, 2, 3, 4, 5] (l := [(5, .ptr 0 0), (6, .d (.int .i64 (x58.Buses.length : Int))), (7, .d (.int .i64 x59)), (8, .row 2 x60.1.length 0 x60.1.length), (10, .row 3 x61.1.length 0 x61.1.length), (12, .row 4 x62.1.length 0 x62.1.length), (16, .row 5 x64.1.length 0 x64.1.length), (107, .d (.bool true)), (109, .und), (110, .und)]) (objs := [.box [.d (.cx .f32 x58.Source.A.re x58.Source.A.im), .d (.cx .f32 x58.Source.B.re x58.Source.B.im), .d (.cx .f32 x58.Source.C.re x58.Source.C.im), .row 1 x58.Buses.length 0 x58.Buses.length], .row 8 (x58.Buses.map eSBus), .row 1 (x60.1.map eInti64), .row 1 (x61.1.map eInti64), .row 1 (x62.1.map eInti64), .row 1 (x64.1.map eInti64)]) rfl (by simp) rfl (by repeat' first | exact trivial | refine ⟨?_, ?_⟩) ⟨rfl, trivial, rfl, trivial, rfl, trivial, rfl, trivial, rfl, trivial, rfl, trivial, rfl, trivial, rfl, trivial, rfl, trivial, rfl, trivial, trivial⟩) ?_
            refine awl_skip rfl rfl ?_
            refine awl_val hτ rfl rfl rfl ?_
            refine awl_val hτ rfl rfl rfl ?_
            refine awl_skip rfl rfl ?_
            refine awl_skip rfl rfl ?_
            refine awl_skip rfl rfl ?_
            refine awl_skip rfl rfl ?_
            refine awl_val hτ rfl rfl rfl ?_
            refine awl_nil ?_
            refine aw_weak (weak_ofP [0, 1, 2, 3, 4, 5] (l := [(5, .ptr 0 0), (6, .d (.int .i64 (x58.Buses.length : Int))), (7, .d (.int .i64 x59)), (8, .row 2 x60.1.length 0 x60.1.length), (10, .row 3 x61.1.length 0 x61.1.length), (12, .row 4 x62.1.length 0 x62.1.length), (16, .row 5 x64.1.length 0 x64.1.length), (118, .d (.bool true))]) (objs := [.box [.d (.cx .f32 x58.Source.A.re x58.Source.A.im), .d (.cx .f32 x58.Source.B.re x58.Source.B.im), .d (.cx .f32 x58.Source.C.re x58.Source.C.im), .row 1 x58.Buses.length 0 x58.Buses.length], .row 8 (x58.Buses.map eSBus), .row 1 (x60.1.map eInti64), .row 1 (x61.1.map eInti64), .row 1 (x62.1.map eInti64), .row 1 (x64.1.map eInti64)]) rfl (by simp) rfl (by repeat' first | exact trivial | refine ⟨?_, ?_⟩) ⟨rfl, trivial, rfl, trivial, rfl, trivial, rfl, trivial, rfl, trivial, rfl, trivial, rfl, trivial, rfl, trivial, trivial⟩) ?_
            exact hk204 true h
          · have hb206 := not_f hb206
            have h := if_bt h hb206
            refine awl_val hτ rfl rfl rfl ?_
            refine awl_val hτ rfl rfl rfl ?_
            refine awl_val hτ rfl rfl rfl ?_
            refine awl_val hτ rfl rfl rfl ?_
            refine awl_split 73 rfl (fun hb207 => ?_) (fun hb207 => ?_)
            · have hb207 := not_t hb207
              have h := if_bf h hb207
              refine awl_skip rfl rfl ?_
              refine awl_weak (weak_ofP [0, 1, 2, 3, 4, 5] (l := [(5, .ptr 0 0), (6, .d (.int .i64 (x58.Buses.length : Int))), (7, .d (.int .i64 x59)), (8, .row 2 x60.1.length 0 x60.1.length), (10, .row 3 x61.1.length 0 x61.1.length), (12, .row 4 x62.1.length 0 x62.1.length), (14, .d (.int .i64 x63.1)), (16, .row 5 x64.1.length 0 x64.1.length), (17, .d (.bool x64.2)), (73, .d (.bool true)), (74, .und)]) (objs := [.box [.d (.cx .f32 x58.Source.A.re x58.Source.A.im), .d (.cx .f32 x58.Source.B.re x58.Source.B.im), .d (.cx .f32 x58.Source.C.re x58.Source.C.im), .row 1 x58.Buses.length 0 x58.Buses.length], .row 8 (x58.Buses.map eSBus), .row 1 (x60.1.map eInti64), .row 1 (x61.1.map eInti64), .row 1 (x62.1.map eInti64), .row 1 (x64.1.map eInti64)]) rfl (by simp) rfl (by repeat' first | exact trivial | refine ⟨?_, ?_⟩) ⟨rfl, trivial, rfl, trivial, rfl, trivial, rfl, trivial, rfl, trivial, rfl, trivial, rfl, trivial, rfl, trivial, rfl, trivial, rfl, trivial, rfl, trivial, trivial⟩) ?_
              refine awl_skip rfl rfl ?_
              refine awl_val hτ rfl rfl rfl ?_
              refine awl_val hτ rfl rfl rfl ?_
              refine awl_skip rfl rfl ?_
              refine awl_skip rfl rfl ?_
              refine awl_val hτ rfl rfl rfl ?_
              refine awl_val hτ rfl rfl rfl ?_
              refine awl_skip rfl rfl ?_
              refine awl_skip rfl rfl ?_
              refine awl_skip rfl rfl ?_
              refine awl_val hτ rfl rfl rfl ?_
              refine awl_val hτ rfl rfl rfl ?_
              refine awl_weak (weak_ofP [0, 1, 2, 3, 4, 5] (l := [(5, .ptr 0 0), (6, .d (.int .i64 (x58.Buses.length : Int))), (7, .d (.int .i64 x59)), (8, .row 2 x60.1.length 0 x60.1.length), (10, .row 3 x61.1.length 0 x61.1.length), (12, .row 4 x62.1.length 0 x62.1.length), (14, .d (.int .i64 x63.1)), (16, .row 5 x64.1.length 0 x64.1.length), (86, .d (.bool true))]) (objs := [.box [.d (.cx .f32 x58.Source.A.re x58.Source.A.im), .d (.cx .f32 x58.Source.B.re x58.Source.B.im), .d (.cx .f32 x58.Source.C.re x58.Source.C.im), .row 1 x58.Buses.length 0 x58.Buses.length], .row 8 (x58.Buses.map eSBus), .row 1 (x60.1.map eInti64), .row 1 (x61.1.map eInti64), .row 1 (x62.1.map eInti64), .row 1 (x64.1.map eInti64)]) rfl (by simp) rfl (by repeat' first | exact trivial | refine ⟨?_, ?_⟩) ⟨rfl, trivial, rfl, trivial, rfl, trivial, rfl, trivial, rfl, trivial, rfl, trivial, rfl, trivial, rfl, trivial, rfl, trivial, trivial⟩) ?_
              refine awl_skip rfl rfl ?_
              refine awl_skip rfl rfl ?_
              refine awl_skip rfl rfl ?_
              refine awl_val hτ rfl rfl rfl ?_
              refine awl_val hτ rfl rfl rfl ?_
              refine awl_skip rfl rfl ?_
              refine awl_skip rfl rfl ?_
              refine awl_skip rfl rfl ?_
              refine awl_skip rfl rfl ?_
              refine awl_val hτ rfl rfl rfl ?_
              refine awl_val hτ rfl rfl rfl ?_
              refine awl_skip rfl rfl ?_
              refine awl_weak (weak_ofP [0, 1, 2, 3, 4, 5] (l := [(5, .ptr 0 0), (6, .d (.int .i64 (x58.Buses.length : Int))), (7, .d (.int .i64 x59)), (8, .row 2 x60.1.length 0 x60.1.length), (10, .row 3 x61.1.length 0 x61.1.length), (12, .row 4 x62.1.length 0 x62.1.length), (14, .d (.int .i64 x63.1)), (16, .row 5 x64.1.length 0 x64.1.length), (97, .d (.bool true)), (98, .und)]) (objs := [.box [.d (.cx .f32 x58.Source.A.re x58.Source.A.im), .d (.cx .f32 x58.Source.B.re x58.Source.B.im), .d (.cx .f32 x58.Source.C.re x58.Source.C.im), .row 1 x58.Buses.length 0 x58.Buses.length], .row 8 (x58.Buses.map eSBus), .row 1 (x60.1.map eInti64), .row 1 (x61.1.map eInti64), .row 1 (x62.1.map eInti64), .row 1 (x64.1.map eInti64)]) rfl (by simp) rfl (by repeat' first | exact trivial | refine ⟨?_, ?_⟩) ⟨rfl, trivial, rfl, trivial, rfl, trivial, rfl, trivial, rfl, trivial, rfl, trivial, rfl, trivial, rfl, trivial, rfl, trivial, rfl, trivial, trivial⟩) ?_
              refine awl_skip rfl rfl ?_
              refine awl_skip rfl rfl ?_
              refine awl_skip rfl rfl ?_
              refine awl_skip rfl rfl ?_
              refine awl_skip rfl rfl ?_
              refine awl_skip rfl rfl ?_
              refine awl_skip rfl rfl ?_
              refine awl_val hτ rfl rfl rfl ?_
              refine awl_val hτ rfl rfl rfl ?_
              refine awl_skip rfl rfl ?_
              refine awl_skip rfl rfl ?_
              refine awl_skip rfl rfl ?_
              refine awl_weak (weak_ofP [0, 1, 2, 3, 4, 5] (l := [(5, .ptr 0 0), (6, .d (.int .i64 (x58.Buses.length : Int))), (7, .d (.int .i64 x59)), (8, .row 2 x60.1.length 0 x60.1.length), (10, .row 3 x61.1.length 0 x61.1.length), (12, .row 4 x62.1.length 0 x62.1.length), (16, .row 5 x64.1.length 0 x64.1.length), (107, .d (.bool true)), (109, .und), (110, .und)]) (objs := [.box [.d (.cx .f32 x58.Source.A.re x58.Source.A.im), .d (.cx .f32 x58.Source.B.re x58.Source.B.im), .d (.cx .f32 x58.Source.C.re x58.Source.C.im), .row 1 x58.Buses.length 0 x58.Buses.length], .row 8 (x58.Buses.map eSBus), .row 1 (x60.1.map eInti64), .row 1 (x61.1.map eInti64), .row 1 (x62.1.map eInti64), .row 1 (x64.1.map eInti64)]) rfl (by simp) rfl (by repeat' first | exact trivial | refine ⟨?_, ?_⟩) ⟨rfl, trivial, rfl, trivial, rfl, trivial, rfl, trivial, rfl, trivial, rfl, trivial, rfl, trivial, rfl, trivial, rfl, trivial, rfl, trivial, trivial⟩) ?_
              refine awl_skip rfl rfl ?_
              refine awl_val hτ rfl rfl rfl ?_
              refine awl_val hτ rfl rfl rfl ?_
              refine awl_skip rfl rfl ?_
              refine awl_skip rfl rfl ?_
              refine awl_skip rfl rfl ?_
              refine awl_skip rfl rfl ?_
              refine awl_val hτ rfl rfl rfl ?_
              refine awl_nil ?_
              refine aw_weak (weak_ofP [0, 1, 2, 3, 4, 5] (l := [(5, .ptr 0 0), (6, .d (.int .i64 (x58.Buses.length : Int))), (7, .d (.int .i64 x59)), (8, .row 2 x60.1.length 0 x60.1.length), (10, .row 3 x61.1.length 0 x61.1.length), (12, .row 4 x62.1.length 0 x62.1.length), (16, .row 5 x64.1.length 0 x64.1.length), (118, .d (.bool true))]) (objs := [.box [.d (.cx .f32 x58.Source.A.re x58.Source.A.im), .d (.cx .f32 x58.Source.B.re x58.Source.B.im), .d (.cx .f32 x58.Source.C.re x58.Source.C.im), .row 1 x58.Buses.length 0 x58.Buses.length], .row 8 (x58.Buses.map eSBus), .row 1 (x60.1.map eInti64), .row 1 (x61.1.map eInti64), .row 1 (x62.1.map eInti64), .row 1 (x64.1.map eInti64)]) rfl (by simp) rfl (by repeat' first | exact trivial | refine ⟨?_, ?_⟩) ⟨rfl, trivial, rfl, trivial, rfl, trivial, rfl, trivial, rfl, trivial, rfl, trivial, rfl, trivial, rfl, trivial, trivial⟩) ?_
              exact hk204 true h
            · have hb207 := not_f hb207
              have h := if_bt h hb207
              refine awl_val hτ rfl rfl rfl ?_
              refine awl_weak (weak_ofP [0, 1, 2, 3, 4, 5] (l := [(5, .ptr 0 0), (6, .d (.int .i64 (x58.Buses.length : Int))), (7, .d (.int .i64 x59)), (8, .row 2 x60.1.length 0 x60.1.length), (10, .row 3 x61.1.length 0 x61.1.length), (12, .row 4 x62.1.length 0 x62.1.length), (14, .d (.int .i64 x63.1)), (16, .row 5 x64.1.length 0 x64.1.length), (17, .d (.bool x64.2)), (73, .d (.bool false)), (74, .d (.bool x63.2))]) (objs := [.box [.d (.cx .f32 x58.Source.A.re x58.Source.A.im), .d (.cx .f32 x58.Source.B.re x58.Source.B.im), .d (.cx .f32 x58.Source.C.re x58.Source.C.im), .row 1 x58.Buses.length 0 x58.Buses.length], .row 8 (x58.Buses.map eSBus), .row 1 (x60.1.map eInti64), .row 1 (x61.1.map eInti64), .row 1 (x62.1.map eInti64), .row 1 (x64.1.map eInti64)]) rfl (by simp) rfl (by repeat' first | exact trivial | refine ⟨?_, ?_⟩) ⟨rfl, trivial, rfl, trivial, rfl, trivial, rfl, trivial, rfl, trivial, rfl, trivial, rfl, trivial, rfl, trivial, rfl, trivial, rfl, trivial, rfl, trivial, trivial⟩) ?_
              refine awl_val hτ rfl rfl rfl ?_
              refine awl_val hτ rfl rfl rfl ?_
              refine awl_val hτ rfl rfl rfl ?_
              refine awl_split 77 rfl (fun hb208 => ?_) (fun hb208 => ?_)
              · have hb208 := not_t hb208
                have h := if_bf h hb208
                refine awl_skip rfl rfl ?_
                refine awl_skip rfl rfl ?_
                refine awl_val hτ rfl rfl rfl ?_
                refine awl_val hτ rfl rfl rfl ?_
                refine awl_skip rfl rfl ?_
                refine awl_skip rfl rfl ?_
                refine awl_skip rfl rfl ?_
                refine awl_val hτ rfl rfl rfl ?_
                refine awl_val hτ rfl rfl rfl ?_
                refine awl_weak (weak_ofP [0, 1, 2, 3, 4, 5] (l := [(5, .ptr 0 0), (6, .d (.int .i64 (x58.Buses.length : Int))), (7, .d (.int .i64 x59)), (8, .row 2 x60.1.length 0 x60.1.length), (10, .row 3 x61.1.length 0 x61.1.length), (12, .row 4 x62.1.length 0 x62.1.length), (14, .d (.int .i64 x63.1)), (16, .row 5 x64.1.length 0 x64.1.length), (86, .d (.bool true))]) (objs := [.box [.d (.cx .f32 x58.Source.A.re x58.Source.A.im), .d (.cx .f32 x58.Source.B.re x58.Source.B.im), .d (.cx .f32 x58.Source.C.re x58.Source.C.im), .row 1 x58.Buses.length 0 x58.Buses.length], .row 8 (x58.Buses.map eSBus), .row 1 (x60.1.map eInti64), .row 1 (x61.1.map eInti64), .row 1 (x62.1.map eInti64), .row 1 (x64.1.map eInti64)]) rfl (by simp) rfl (by repeat' first | exact trivial | refine ⟨?_, ?_⟩) ⟨rfl, trivial, rfl, trivial, rfl, trivial, rfl, trivial, rfl, trivial, rfl, trivial, rfl, trivial, rfl, trivial, rfl, trivial, trivial⟩) ?_
                refine awl_skip rfl rfl ?_
                refine awl_skip rfl rfl ?_
                refine awl_skip rfl rfl ?_
                refine awl_val hτ rfl rfl rfl ?_
                refine awl_val hτ rfl rfl rfl ?_
                refine awl_skip rfl rfl ?_
                refine awl_skip rfl rfl ?_
                refine awl_skip rfl rfl ?_
                refine awl_skip rfl rfl ?_
                refine awl_val hτ rfl rfl rfl ?_
                refine awl_val hτ rfl rfl rfl ?_
                refine awl_skip rfl rfl ?_
                refine awl_weak (weak_ofP [0, 1, 2, 3, 4, 5] (l := [(5, .ptr 0 0), (6, .d (.int .i64 (x58.Buses.length : Int))), (7, .d (.int .i64 x59)), (8, .row 2 x60.1.length 0 x60.1.length), (10, .row 3 x61.1.length 0 x61.1.length), (12, .row 4 x62.1.length 0 x62.1.length), (14, .d (.int .i64 x63.1)), (16, .row 5 x64.1.length 0 x64.1.length), (97, .d (.bool true)), (98, .und)]) (objs := [.box [.d (.cx .f32 x58.Source.A.re x58.Source.A.im), .d (.cx .f32 x58.Source.B.re x58.Source.B.im), .d (.cx .f32 x58.Source.C.re x58.Source.C.im), .row 1 x58.Buses.length 0 x58.Buses.length], .row 8 (x58.Buses.map eSBus), .row 1 (x60.1.map eInti64), .row 1 (x61.1.map eInti64), .row 1 (x62.1.map eInti64), .row 1 (x64.1.map eInti64)]) rfl (by simp) rfl (by repeat' first | exact trivial | refine ⟨?_, ?_⟩) ⟨rfl, trivial, rfl, trivial, rfl, trivial, rfl, trivial, rfl, trivial, rfl, trivial, rfl, trivial, rfl, trivial, rfl, trivial, rfl, trivial, trivial⟩) ?_
                refine awl_skip rfl rfl ?_
                refine awl_skip rfl rfl ?_
                refine awl_skip rfl rfl ?_
                refine awl_skip rfl rfl ?_
                refine awl_skip rfl rfl ?_
                refine awl_skip rfl rfl ?_
                refine awl_skip rfl rfl ?_
                refine awl_val hτ rfl rfl rfl ?_
                refine awl_val hτ rfl rfl rfl ?_
                refine awl_skip rfl rfl ?_
                refine awl_skip rfl rfl ?_
                refine awl_skip rfl rfl ?_
                refine awl_weak (weak_ofP [0, 1, 2, 3, 4, 5] (l := [(5, .ptr 0 0), (6, .d (.int .i64 (x58.Buses.length : Int))), (7, .d (.int .i64 x59)), (8, .row 2 x60.1.length 0 x60.1.length), (10, .row 3 x61.1.length 0 x61.1.length), (12, .row 4 x62.1.length 0 x62.1.length), (16, .row 5 x64.1.length 0 x64.1.length), (107, .d (.bool true)), (109, .und), (110, .und)]) (objs := [.box [.d (.cx .f32 x58.Source.A.re x58.Source.A.im), .d (.cx .f32 x58.Source.B.re x58.Source.B.im), .d (.cx .f32 x58.Source.C.re x58.Source.C.im), .row 1 x58.Buses.length 0 x58.Buses.length], .row 8 (x58.Buses.map eSBus), .row 1 (x60.1.map eInti64), .row 1 (x61.1.map eInti64), .row 1 (x62.1.map eInti64), .row 1 (x64.1.map eInti64)]) rfl (by simp) rfl (by repeat' first | exact trivial | refine ⟨?_, ?_⟩) ⟨rfl, trivial, rfl, trivial, rfl, trivial, rfl, trivial, rfl, trivial, rfl, trivial, rfl, trivial, rfl, trivial, rfl, trivial, rfl, trivial, trivial⟩) ?_
                refine awl_skip rfl rfl ?_
                refine awl_val hτ rfl rfl rfl ?_
                refine awl_val hτ rfl rfl rfl ?_
                refine awl_skip rfl rfl ?_
                refine awl_skip rfl rfl ?_
                refine awl_skip rfl rfl ?_
                refine awl_skip rfl rfl ?_
                refine awl_val hτ rfl rfl rfl ?_
                refine awl_nil ?_
                refine aw_weak (weak_ofP [0, 1, 2, 3, 4, 5] (l := [(5, .ptr 0 0), (6, .d (.int .i64 (x58.Buses.length : Int))), (7, .d (.int .i64 x59)), (8, .row 2 x60.1.length 0 x60.1.length), (10, .row 3 x61.1.length 0 x61.1.length), (12, .row 4 x62.1.length 0 x62.1.length), (16, .row 5 x64.1.length 0 x64.1.length), (118, .d (.bool true))]) (objs := [.box [.d (.cx .f32 x58.Source.A.re x58.Source.A.im), .d (.cx .f32 x58.Source.B.re x58.Source.B.im), .d (.cx .f32 x58.Source.C.re x58.Source.C.im), .row 1 x58.Buses.length 0 x58.Buses.length], .row 8 (x58.Buses.map eSBus), .row 1 (x60.1.map eInti64), .row 1 (x61.1.map eInti64), .row 1 (x62.1.map eInti64), .row 1 (x64.1.map eInti64)]) rfl (by simp) rfl (by repeat' first | exact trivial | refine ⟨?_, ?_⟩) ⟨rfl, trivial, rfl, trivial, rfl, trivial, rfl, trivial, rfl, trivial, rfl, trivial, rfl, trivial, rfl, trivial, trivial⟩) ?_
                exact hk204 true h
              · have hb208 := not_f hb208
                have h := if_bt h hb208
                refine awl_val hτ rfl rfl rfl ?_
                refine awl_val hτ rfl rfl rfl ?_
                refine awl_val hτ rfl rfl rfl ?_
                refine awl_val hτ rfl rfl rfl ?_
                refine awl_split 81 rfl (fun hb209 => ?_) (fun hb209 => ?_)
                · have hb209 := not_t hb209
                  have h := if_bf h hb209
                  refine awl_skip rfl rfl ?_
                  refine awl_skip rfl rfl ?_
                  refine awl_skip rfl rfl ?_
                  refine awl_val hτ rfl rfl rfl ?_
                  refine awl_val hτ rfl rfl rfl ?_
                  refine awl_weak (weak_ofP [0, 1, 2, 3, 4, 5] (l := [(5, .ptr 0 0), (6, .d (.int .i64 (x58.Buses.length : Int))), (7, .d (.int .i64 x59)), (8, .row 2 x60.1.length 0 x60.1.length), (10, .row 3 x61.1.length 0 x61.1.length), (12, .row 4 x62.1.length 0 x62.1.length), (14, .d (.int .i64 x63.1)), (16, .row 5 x64.1.length 0 x64.1.length), (86, .d (.bool true))]) (objs := [.box [.d (.cx .f32 x58.Source.A.re x58.Source.A.im), .d (.cx .f32 x58.Source.B.re x58.Source.B.im), .d (.cx .f32 x58.Source.C.re x58.Source.C.im), .row 1 x58.Buses.length 0 x58.Buses.length], .row 8 (x58.Buses.map eSBus), .row 1 (x60.1.map eInti64), .row 1 (x61.1.map eInti64), .row 1 (x62.1.map eInti64), .row 1 (x64.1.map eInti64)]) rfl (by simp) rfl (by repeat' first | exact trivial | refine ⟨?_, ?_⟩) ⟨rfl, trivial, rfl, trivial, rfl, trivial, rfl, trivial, rfl, trivial, rfl, trivial, rfl, trivial, rfl, trivial, rfl, trivial, trivial⟩) ?_
                  refine awl_skip rfl rfl ?_
                  refine awl_skip rfl rfl ?_
                  refine awl_skip rfl rfl ?_
                  refine awl_val hτ rfl rfl rfl ?_
                  refine awl_val hτ rfl rfl rfl ?_
                  refine awl_skip rfl rfl ?_
                  refine awl_skip rfl rfl ?_
                  refine awl_skip rfl rfl ?_
                  refine awl_skip rfl rfl ?_
                  refine awl_val hτ rfl rfl rfl ?_
                  refine awl_val hτ rfl rfl rfl ?_
                  refine awl_skip rfl rfl ?_
                  refine awl_weak (weak_ofP [0, 1, 2, 3, 4, 5] (l := [(5, .ptr 0 0), (6, .d (.int .i64 (x58.Buses.length : Int))), (7, .d (.int .i64 x59)), (8, .row 2 x60.1.length 0 x60.1.length), (10, .row 3 x61.1.length 0 x61.1.length), (12, .row 4 x62.1.length 0 x62.1.length), (14, .d (.int .i64 x63.1)), (16, .row 5 x64.1.length 0 x64.1.length), (97, .d (.bool true)), (98, .und)]) (objs := [.box [.d (.cx .f32 x58.Source.A.re x58.Source.A.im), .d (.cx .f32 x58.Source.B.re x58.Source.B.im), .d (.cx .f32 x58.Source.C.re x58.Source.C.im), .row 1 x58.Buses.length 0 x58.Buses.length], .row 8 (x58.Buses.map eSBus), .row 1 (x60.1.map eInti64), .row 1 (x61.1.map eInti64), .row 1 (x62.1.map eInti64), .row 1 (x64.1.map eInti64)]) rfl (by simp) rfl (by repeat' first | exact trivial | refine ⟨?_, ?_⟩) ⟨rfl, trivial, rfl, trivial, rfl, trivial, rfl, trivial, rfl, trivial, rfl, trivial, rfl, trivial, rfl, trivial, rfl, trivial, rfl, trivial, trivial⟩) ?_
                  refine awl_skip rfl rfl ?_
                  refine awl_skip rfl rfl ?_
                  refine awl_skip rfl rfl ?_
                  refine awl_skip rfl rfl ?_
                  refine awl_skip rfl rfl ?_
                  refine awl_skip rfl rfl ?_
                  refine awl_skip rfl rfl ?_
                  refine awl_val hτ rfl rfl rfl ?_
                  refine awl_val hτ rfl rfl rfl ?_
                  refine awl_skip rfl rfl ?_
                  refine awl_skip rfl rfl ?_
                  refine awl_skip rfl rfl ?_
                  refine awl_weak (weak_ofP [0, 1, 2, 3, 4, 5] (l := [(5, .ptr 0 0), (6, .d (.int .i64 (x58.Buses.length : Int))), (7, .d (.int .i64 x59)), (8, .row 2 x60.1.length 0 x60.1.length), (10, .row 3 x61.1.length 0 x61.1.length), (12, .row 4 x62.1.length 0 x62.1.length), (16, .row 5 x64.1.length 0 x64.1.length), (107, .d (.bool true)), (109, .und), (110, .und)]) (objs := [.box [.d (.cx .f32 x58.Source.A.re x58.Source.A.im), .d (.cx .f32 x58.Source.B.re x58.Source.B.im), .d (.cx .f32 x58.Source.C.re x58.Source.C.im), .row 1 x58.Buses.length 0 x58.Buses.length], .row 8 (x58.Buses.map eSBus), .row 1 (x60.1.map eInti64), .row 1 (x61.1.map eInti64), .row 1 (x62.1.map eInti64), .row 1 (x64.1.map eInti64)]) rfl (by simp) rfl (by repeat' first | exact trivial | refine ⟨?_, ?_⟩) ⟨rfl, trivial, rfl, trivial, rfl, trivial, rfl, trivial, rfl, trivial, rfl, trivial, rfl, trivial, rfl, trivial, rfl, trivial, rfl, trivial, trivial⟩) ?_
                  refine awl_skip rfl rfl ?_
                  refine awl_val hτ rfl rfl rfl ?_
                  refine awl_val hτ rfl rfl rfl ?_
                  refine awl_skip rfl rfl ?_
                  refine awl_skip rfl rfl ?_
                  refine awl_skip rfl rfl ?_
                  refine awl_skip rfl rfl ?_
                  refine awl_val hτ rfl rfl rfl ?_
                  refine awl_nil ?_
                  refine aw_weak (weak_ofP [0, 1, 2, 3, 4, 5] (l := [(5, .ptr 0 0), (6, .d (.int .i64 (x58.Buses.length : Int))), (7, .d (.int .i64 x59)), (8, .row 2 x60.1.length 0 x60.1.length), (10, .row 3 x61.1.length 0 x61.1.length), (12, .row 4 x62.1.length 0 x62.1.length), (16, .row 5 x64.1.length 0 x64.1.length), (118, .d (.bool true))]) (objs := [.box [.d (.cx .f32 x58.Source.A.re x58.Source.A.im), .d (.cx .f32 x58.Source.B.re x58.Source.B.im), .d (.cx .f32 x58.Source.C.re x58.Source.C.im), .row 1 x58.Buses.length 0 x58.Buses.length], .row 8 (x58.Buses.map eSBus), .row 1 (x60.1.map eInti64), .row 1 (x61.1.map eInti64), .row 1 (x62.1.map eInti64), .row 1 (x64.1.map eInti64)]) rfl (by simp) rfl (by repeat' first | exact trivial | refine ⟨?_, ?_⟩) ⟨rfl, trivial, rfl, trivial, rfl, trivial, rfl, trivial, rfl, trivial, rfl, trivial, rfl, trivial, rfl, trivial, trivial⟩) ?_
                  exact hk204 true h
                · have hb209 := not_f hb209
                  have h := if_bt h hb209
                  refine awl_val hτ rfl rfl rfl ?_
                  refine awl_weak (weak_ofP [0, 1, 2, 3, 4, 5] (l := [(5, .ptr 0 0), (6, .d (.int .i64 (x58.Buses.length : Int))), (7, .d (.int .i64 x59)), (8, .row 2 x60.1.length 0 x60.1.length), (10, .row 3 x61.1.length 0 x61.1.length), (12, .row 4 x62.1.length 0 x62.1.length), (14, .d (.int .i64 x63.1)), (16, .row 5 x64.1.length 0 x64.1.length), (81, .d (.bool false)), (82, .agg [.d (.cx .f32 x58.Source.A.re x58.Source.A.im), .d (.cx .f32 x58.Source.B.re x58.Source.B.im), .d (.cx .f32 x58.Source.C.re x58.Source.C.im), .row 1 x58.Buses.length 0 x58.Buses.length])]) (objs := [.box [.d (.cx .f32 x58.Source.A.re x58.Source.A.im), .d (.cx .f32 x58.Source.B.re x58.Source.B.im), .d (.cx .f32 x58.Source.C.re x58.Source.C.im), .row 1 x58.Buses.length 0 x58.Buses.length], .row 8 (x58.Buses.map eSBus), .row 1 (x60.1.map eInti64), .row 1 (x61.1.map eInti64), .row 1 (x62.1.map eInti64), .row 1 (x64.1.map eInti64)]) rfl (by simp) rfl (by repeat' first | exact trivial | refine ⟨?_, ?_⟩) ⟨rfl, trivial, rfl, trivial, rfl, trivial, rfl, trivial, rfl, trivial, rfl, trivial, rfl, trivial, rfl, trivial, rfl, trivial, rfl, (by repeat' first | exact trivial | refine ⟨?_, ?_⟩), trivial⟩) ?_
                  refine bnd_elim h fun x210 hx210 h => ?_
                  refine awl_callP hτ true [] rfl rfl rfl (enterOk func20 rfl rfl) (mapO_cons (exV_agg (mapO_cons rfl (mapO_cons rfl (mapO_cons rfl (mapO_cons (exC_view (f := eSBus) x58.Buses rfl rfl rfl) mapO_nil))))) mapO_nil) rfl (by simp) ⟨⟨trivial, trivial, trivial, (exP_view (f := eSBus) x58.Buses rfl rfl rfl)⟩, trivial⟩ (by repeat' first | exact trivial | refine ⟨?_, ?_⟩) (impl_ValidFeeder_ok_fr n (SFeeder.mk x58.Source x58.Buses) hx210) ?_
                  rintro r0 o0 n0 ⟨rfl, rfl, rfl⟩ -
                  refine awl_val hτ rfl rfl rfl ?_
                  refine awl_val hτ rfl rfl rfl ?_
                  refine awl_val hτ rfl rfl rfl ?_
                  refine awl_split 86 rfl (fun hb211 => ?_) (fun hb211 => ?_)
                  · have hb211 := not_t hb211
                    have h := if_bf h hb211
                    refine awl_skip rfl rfl ?_
                    refine awl_skip rfl rfl ?_
                    refine awl_skip rfl rfl ?_
                    refine awl_val hτ rfl rfl rfl ?_
                    refine awl_val hτ rfl rfl rfl ?_
                    refine awl_skip rfl rfl ?_
                    refine awl_skip rfl rfl ?_
                    refine awl_skip rfl rfl ?_
                    refine awl_weak (weak_ofP [0, 1, 2, 3, 4, 5] (l := [(5, .ptr 0 0), (6, .d (.int .i64 (x58.Buses.length : Int))), (7, .d (.int .i64 x59)), (8, .row 2 x60.1.length 0 x60.1.length), (10, .row 3 x61.1.length 0 x61.1.length), (12, .row 4 x62.1.length 0 x62.1.length), (14, .d (.int .i64 x63.1)), (16, .row 5 x64.1.length 0 x64.1.length), (91, .d (.bool true)), (94, .und)]) (objs := [.box [.d (.cx .f32 x58.Source.A.re x58.Source.A.im), .d (.cx .f32 x58.Source.B.re x58.Source.B.im), .d (.cx .f32 x58.Source.C.re x58.Source.C.im), .row 1 x58.Buses.length 0 x58.Buses.length], .row 8 (x58.Buses.map eSBus), .row 1 (x60.1.map eInti64), .row 1 (x61.1.map eInti64), .row 1 (x62.1.map eInti64), .row 1 (x64.1.map eInti64)]) rfl (by simp) rfl (by repeat' first | exact trivial | refine ⟨?_, ?_⟩) ⟨rfl, trivial, rfl, trivial, rfl, trivial, rfl, trivial, rfl, trivial, rfl, trivial, rfl, trivial, rfl, trivial, rfl, trivial, rfl, trivial, trivial⟩) ?_
                    refine awl_skip rfl rfl ?_
                    refine awl_val hτ rfl rfl rfl ?_
                    refine awl_val hτ rfl rfl rfl ?_
                    refine awl_skip rfl rfl ?_
                    refine awl_skip rfl rfl ?_
                    refine awl_skip rfl rfl ?_
                    refine awl_skip rfl rfl ?_
                    refine awl_skip rfl rfl ?_
                    refine awl_skip rfl rfl ?_
                    refine awl_skip rfl rfl ?_
                    refine awl_skip rfl rfl ?_
                    refine awl_val hτ rfl rfl rfl ?_
                    refine awl_weak (weak_ofP [0, 1, 2, 3, 4, 5] (l := [(5, .ptr 0 0), (6, .d (.int .i64 (x58.Buses.length : Int))), (7, .d (.int .i64 x59)), (8, .row 2 x60.1.length 0 x60.1.length), (10, .row 3 x61.1.length 0 x61.1.length), (12, .row 4 x62.1.length 0 x62.1.length), (14, .d (.int .i64 x63.1)), (16, .row 5 x64.1.length 0 x64.1.length), (106, .d (.bool true))]) (objs := [.box [.d (.cx .f32 x58.Source.A.re x58.Source.A.im), .d (.cx .f32 x58.Source.B.re x58.Source.B.im), .d (.cx .f32 x58.Source.C.re x58.Source.C.im), .row 1 x58.Buses.length 0 x58.Buses.length], .row 8 (x58.Buses.map eSBus), .row 1 (x60.1.map eInti64), .row 1 (x61.1.map eInti64), .row 1 (x62.1.map eInti64), .row 1 (x64.1.map eInti64)]) rfl (by simp) rfl (by repeat' first | exact trivial | refine ⟨?_, ?_⟩) ⟨rfl, trivial, rfl, trivial, rfl, trivial, rfl, trivial, rfl, trivial, rfl, trivial, rfl, trivial, rfl, trivial, rfl, trivial, trivial⟩) ?_
                    refine awl_val hτ rfl rfl rfl ?_
                    refine awl_skip rfl rfl ?_
                    refine awl_skip rfl rfl ?_
                    refine awl_skip rfl rfl ?_
                    refine awl_skip rfl rfl ?_
                    refine awl_val hτ rfl rfl rfl ?_
                    refine awl_val hτ rfl rfl rfl ?_
                    refine awl_skip rfl rfl ?_
                    refine awl_skip rfl rfl ?_
                    refine awl_skip rfl rfl ?_
                    refine awl_skip rfl rfl ?_
                    refine awl_val hτ rfl rfl rfl ?_
                    refine awl_nil ?_
                    refine aw_weak (weak_ofP [0, 1, 2, 3, 4, 5] (l := [(5, .ptr 0 0), (6, .d (.int .i64 (x58.Buses.length : Int))), (7, .d (.int .i64 x59)), (8, .row 2 x60.1.length 0 x60.1.length), (10, .row 3 x61.1.length 0 x61.1.length), (12, .row 4 x62.1.length 0 x62.1.length), (16, .row 5 x64.1.length 0 x64.1.length), (118, .d (.bool true))]) (objs := [.box [.d (.cx .f32 x58.Source.A.re x58.Source.A.im), .d (.cx .f32 x58.Source.B.re x58.Source.B.im), .d (.cx .f32 x58.Source.C.re x58.Source.C.im), .row 1 x58.Buses.length 0 x58.Buses.length], .row 8 (x58.Buses.map eSBus), .row 1 (x60.1.map eInti64), .row 1 (x61.1.map eInti64), .row 1 (x62.1.map eInti64), .row 1 (x64.1.map eInti64)]) rfl (by simp) rfl (by repeat' first | exact trivial | refine ⟨?_, ?_⟩) ⟨rfl, trivial, rfl, trivial, rfl, trivial, rfl, trivial, rfl, trivial, rfl, trivial, rfl, trivial, rfl, trivial, trivial⟩) ?_
                    exact hk204 true h
                  · have hb211 := not_f hb211
                    have h := if_bt h hb211
                    refine awl_val hτ rfl rfl rfl ?_
                    refine awl_need hτ rfl rfl rfl (len_map _) ?_
                    refine awl_val hτ (v := .d (.bool (decide ((x60.1.length : Int) = (0 : Int))))) rfl rfl (or_ieq _ _) ?_
                    refine awl_val hτ rfl rfl rfl ?_
                    refine awl_val hτ rfl rfl rfl ?_
                    refine awl_split 91 rfl (fun hb212 => ?_) (fun hb212 => ?_)
                    · have h := if_t h hb212
                      refine awl_skip rfl rfl ?_
                      refine awl_skip rfl rfl ?_
                      refine awl_skip rfl rfl ?_
                      refine awl_weak (weak_ofP [0, 1, 2, 3, 4, 5] (l := [(5, .ptr 0 0), (6, .d (.int .i64 (x58.Buses.length : Int))), (7, .d (.int .i64 x59)), (8, .row 2 x60.1.length 0 x60.1.length), (10, .row 3 x61.1.length 0 x61.1.length), (12, .row 4 x62.1.length 0 x62.1.length), (14, .d (.int .i64 x63.1)), (16, .row 5 x64.1.length 0 x64.1.length), (91, .d (.bool true)), (94, .und)]) (objs := [.box [.d (.cx .f32 x58.Source.A.re x58.Source.A.im), .d (.cx .f32 x58.Source.B.re x58.Source.B.im), .d (.cx .f32 x58.Source.C.re x58.Source.C.im), .row 1 x58.Buses.length 0 x58.Buses.length], .row 8 (x58.Buses.map eSBus), .row 1 (x60.1.map eInti64), .row 1 (x61.1.map eInti64), .row 1 (x62.1.map eInti64), .row 1 (x64.1.map eInti64)]) rfl (by simp) rfl (by repeat' first | exact trivial | refine ⟨?_, ?_⟩) ⟨rfl, trivial, rfl, trivial, rfl, trivial, rfl, trivial, rfl, trivial, rfl, trivial, rfl, trivial, rfl, trivial, rfl, trivial, rfl, trivial, trivial⟩) ?_
                      refine awl_skip rfl rfl ?_
                      refine awl_val hτ rfl rfl rfl ?_
                      refine awl_val hτ rfl rfl rfl ?_
                      refine awl_skip rfl rfl ?_
                      refine awl_skip rfl rfl ?_
                      refine awl_skip rfl rfl ?_
                      refine awl_skip rfl rfl ?_
                      refine awl_skip rfl rfl ?_
                      refine awl_skip rfl rfl ?_
                      refine awl_skip rfl rfl ?_
                      refine awl_skip rfl rfl ?_
                      refine awl_val hτ rfl rfl rfl ?_
                      refine awl_weak (weak_ofP [0, 1, 2, 3, 4, 5] (l := [(5, .ptr 0 0), (6, .d (.int .i64 (x58.Buses.length : Int))), (7, .d (.int .i64 x59)), (8, .row 2 x60.1.length 0 x60.1.length), (10, .row 3 x61.1.length 0 x61.1.length), (12, .row 4 x62.1.length 0 x62.1.length), (14, .d (.int .i64 x63.1)), (16, .row 5 x64.1.length 0 x64.1.length), (106, .d (.bool true))]) (objs := [.box [.d (.cx .f32 x58.Source.A.re x58.Source.A.im), .d (.cx .f32 x58.Source.B.re x58.Source.B.im), .d (.cx .f32 x58.Source.C.re x58.Source.C.im), .row 1 x58.Buses.length 0 x58.Buses.length], .row 8 (x58.Buses.map eSBus), .row 1 (x60.1.map eInti64), .row 1 (x61.1.map eInti64), .row 1 (x62.1.map eInti64), .row 1 (x64.1.map eInti64)]) rfl (by simp) rfl (by repeat' first | exact trivial | refine ⟨?_, ?_⟩) ⟨rfl, trivial, rfl, trivial, rfl, trivial, rfl, trivial, rfl, trivial, rfl, trivial, rfl, trivial, rfl, trivial, rfl, trivial, trivial⟩) ?_
                      refine awl_val hτ rfl rfl rfl ?_
                      refine awl_skip rfl rfl ?_
                      refine awl_skip rfl rfl ?_
                      refine awl_skip rfl rfl ?_
                      refine awl_skip rfl rfl ?_
                      refine awl_val hτ rfl rfl rfl ?_
                      refine awl_val hτ rfl rfl rfl ?_
                      refine awl_skip rfl rfl ?_
                      refine awl_skip rfl rfl ?_
                      refine awl_skip rfl rfl ?_
                      refine awl_skip rfl rfl ?_
                      refine awl_val hτ rfl rfl rfl ?_
                      refine awl_nil ?_
                      refine aw_weak (weak_ofP [0, 1, 2, 3, 4, 5] (l := [(5, .ptr 0 0), (6, .d (.int .i64 (x58.Buses.length : Int))), (7, .d (.int .i64 x59)), (8, .row 2 x60.1.length 0 x60.1.length), (10, .row 3 x61.1.length 0 x61.1.length), (12, .row 4 x62.1.length 0 x62.1.length), (16, .row 5 x64.1.length 0 x64.1.length), (118, .d (.bool true))]) (objs := [.box [.d (.cx .f32 x58.Source.A.re x58.Source.A.im), .d (.cx .f32 x58.Source.B.re x58.Source.B.im), .d (.cx .f32 x58.Source.C.re x58.Source.C.im), .row 1 x58.Buses.length 0 x58.Buses.length], .row 8 (x58.Buses.map eSBus), .row 1 (x60.1.map eInti64), .row 1 (x61.1.map eInti64), .row 1 (x62.1.map eInti64), .row 1 (x64.1.map eInti64)]) rfl (by simp) rfl (by repeat' first | exact trivial | refine ⟨?_, ?_⟩) ⟨rfl, trivial, rfl, trivial, rfl, trivial, rfl, trivial, rfl, trivial, rfl, trivial, rfl, trivial, rfl, trivial, trivial⟩) ?_
                      exact hk204 true h
                    · have h := if_f h hb212
                      refine awl_val hτ rfl rfl rfl ?_
                      refine bnd_elim h fun x213 hx213 h => ?_
                      refine awl_need hτ rfl rfl rfl (row_need hx213) ?_
                      refine awl_elem hτ rfl rfl rfl (len_map _) (row_get hx213) rfl ?_
                      refine awl_weak (weak_ofP [0, 1, 2, 3, 4, 5] (l := [(5, .ptr 0 0), (6, .d (.int .i64 (x58.Buses.length : Int))), (7, .d (.int .i64 x59)), (8, .row 2 x60.1.length 0 x60.1.length), (10, .row 3 x61.1.length 0 x61.1.length), (12, .row 4 x62.1.length 0 x62.1.length), (14, .d (.int .i64 x63.1)), (16, .row 5 x64.1.length 0 x64.1.length), (91, .d (.bool false)), (94, .d (.int .i64 x213))]) (objs := [.box [.d (.cx .f32 x58.Source.A.re x58.Source.A.im), .d (.cx .f32 x58.Source.B.re x58.Source.B.im), .d (.cx .f32 x58.Source.C.re x58.Source.C.im), .row 1 x58.Buses.length 0 x58.Buses.length], .row 8 (x58.Buses.map eSBus), .row 1 (x60.1.map eInti64), .row 1 (x61.1.map eInti64), .row 1 (x62.1.map eInti64), .row 1 (x64.1.map eInti64)]) rfl (by simp) rfl (by repeat' first | exact trivial | refine ⟨?_, ?_⟩) ⟨rfl, trivial, rfl, trivial, rfl, trivial, rfl, trivial, rfl, trivial, rfl, trivial, rfl, trivial, rfl, trivial, rfl, trivial, rfl, trivial, trivial⟩) ?_
                      refine awl_val hτ (v := .d (.bool (!(decide (x213 = (0 : Int)))))) rfl rfl (or_ine _ _) ?_
                      refine awl_val hτ rfl rfl rfl ?_
                      refine awl_val hτ rfl rfl rfl ?_
                      refine awl_split 97 rfl (fun hb214 => ?_) (fun hb214 => ?_)
                      · have hb214 := not_t hb214
                        have h := if_f h hb214
                        refine awl_skip rfl rfl ?_
                        refine awl_skip rfl rfl ?_
                        refine awl_skip rfl rfl ?_
                        refine awl_skip rfl rfl ?_
                        refine awl_skip rfl rfl ?_
                        refine awl_skip rfl rfl ?_
                        refine awl_skip rfl rfl ?_
                        refine awl_skip rfl rfl ?_
                        refine awl_val hτ rfl rfl rfl ?_
                        refine awl_weak (weak_ofP [0, 1, 2, 3, 4, 5] (l := [(5, .ptr 0 0), (6, .d (.int .i64 (x58.Buses.length : Int))), (7, .d (.int .i64 x59)), (8, .row 2 x60.1.length 0 x60.1.length), (10, .row 3 x61.1.length 0 x61.1.length), (12, .row 4 x62.1.length 0 x62.1.length), (14, .d (.int .i64 x63.1)), (16, .row 5 x64.1.length 0 x64.1.length), (106, .d (.bool true))]) (objs := [.box [.d (.cx .f32 x58.Source.A.re x58.Source.A.im), .d (.cx .f32 x58.Source.B.re x58.Source.B.im), .d (.cx .f32 x58.Source.C.re x58.Source.C.im), .row 1 x58.Buses.length 0 x58.Buses.length], .row 8 (x58.Buses.map eSBus), .row 1 (x60.1.map eInti64), .row 1 (x61.1.map eInti64), .row 1 (x62.1.map eInti64), .row 1 (x64.1.map eInti64)]) rfl (by simp) rfl (by repeat' first | exact trivial | refine ⟨?_, ?_⟩) ⟨rfl, trivial, rfl, trivial, rfl, trivial, rfl, trivial, rfl, trivial, rfl, trivial, rfl, trivial, rfl, trivial, rfl, trivial, trivial⟩) ?_
                        refine awl_val hτ rfl rfl rfl ?_
                        refine awl_skip rfl rfl ?_
                        refine awl_skip rfl rfl ?_
                        refine awl_skip rfl rfl ?_
                        refine awl_skip rfl rfl ?_
                        refine awl_val hτ rfl rfl rfl ?_
                        refine awl_val hτ rfl rfl rfl ?_
                        refine awl_skip rfl rfl ?_
                        refine awl_skip rfl rfl ?_
                        refine awl_skip rfl rfl ?_
                        refine awl_skip rfl rfl ?_
                        refine awl_val hτ rfl rfl rfl ?_
                        refine awl_nil ?_
                        refine aw_weak (weak_ofP [0, 1, 2, 3, 4, 5] (l := [(5, .ptr 0 0), (6, .d (.int .i64 (x58.Buses.length : Int))), (7, .d (.int .i64 x59)), (8, .row 2 x60.1.length 0 x60.1.length), (10, .row 3 x61.1.length 0 x61.1.length), (12, .row 4 x62.1.length 0 x62.1.length), (16, .row 5 x64.1.length 0 x64.1.length), (118, .d (.bool true))]) (objs := [.box [.d (.cx .f32 x58.Source.A.re x58.Source.A.im), .d (.cx .f32 x58.Source.B.re x58.Source.B.im), .d (.cx .f32 x58.Source.C.re x58.Source.C.im), .row 1 x58.Buses.length 0 x58.Buses.length], .row 8 (x58.Buses.map eSBus), .row 1 (x60.1.map eInti64), .row 1 (x61.1.map eInti64), .row 1 (x62.1.map eInti64), .row 1 (x64.1.map eInti64)]) rfl (by simp) rfl (by repeat' first | exact trivial | refine ⟨?_, ?_⟩) ⟨rfl, trivial, rfl, trivial, rfl, trivial, rfl, trivial, rfl, trivial, rfl, trivial, rfl, trivial, rfl, trivial, trivial⟩) ?_
                        exact hk204 true h
                      · have hb214 := not_f hb214
                        have h := if_t h hb214
                        refine awl_val hτ rfl rfl rfl ?_
                        refine awl_val hτ rfl rfl rfl ?_
                        refine awl_need hτ rfl rfl rfl (len_map _) ?_
                        refine awl_val hτ rfl rfl rfl ?_
                        refine bnd_elim h fun x215 hx215 h => ?_
                        refine awl_need hτ rfl rfl rfl (row_need hx215) ?_
                        refine awl_elem hτ rfl rfl rfl (len_map _) (row_get hx215) rfl ?_
                        refine awl_val hτ rfl rfl rfl ?_
                        refine awl_val hτ (v := .d (.bool (!(decide (x215 = x59))))) rfl rfl (or_ine _ _) ?_
                        refine awl_val hτ rfl rfl rfl ?_
                        refine awl_weak (weak_ofP [0, 1, 2, 3, 4, 5] (l := [(5, .ptr 0 0), (6, .d (.int .i64 (x58.Buses.length : Int))), (7, .d (.int .i64 x59)), (8, .row 2 x60.1.length 0 x60.1.length), (10, .row 3 x61.1.length 0 x61.1.length), (12, .row 4 x62.1.length 0 x62.1.length), (14, .d (.int .i64 x63.1)), (16, .row 5 x64.1.length 0 x64.1.length), (106, .d (.bool (!(decide (x215 = x59)))))]) (objs := [.box [.d (.cx .f32 x58.Source.A.re x58.Source.A.im), .d (.cx .f32 x58.Source.B.re x58.Source.B.im), .d (.cx .f32 x58.Source.C.re x58.Source.C.im), .row 1 x58.Buses.length 0 x58.Buses.length], .row 8 (x58.Buses.map eSBus), .row 1 (x60.1.map eInti64), .row 1 (x61.1.map eInti64), .row 1 (x62.1.map eInti64), .row 1 (x64.1.map eInti64)]) rfl (by simp) rfl (by repeat' first | exact trivial | refine ⟨?_, ?_⟩) ⟨rfl, trivial, rfl, trivial, rfl, trivial, rfl, trivial, rfl, trivial, rfl, trivial, rfl, trivial, rfl, trivial, rfl, trivial, trivial⟩) ?_
                        refine awl_val hτ rfl rfl rfl ?_
                        refine awl_split 107 rfl (fun hb216 => ?_) (fun hb216 => ?_)
                        · have hb216 := not_t hb216
                          have h := if_f h hb216
                          refine awl_skip rfl rfl ?_
                          refine awl_skip rfl rfl ?_
                          refine awl_skip rfl rfl ?_
                          refine awl_skip rfl rfl ?_
                          refine awl_val hτ rfl rfl rfl ?_
                          refine awl_val hτ rfl rfl rfl ?_
                          refine awl_skip rfl rfl ?_
                          refine awl_skip rfl rfl ?_
                          refine awl_skip rfl rfl ?_
                          refine awl_skip rfl rfl ?_
                          refine awl_val hτ rfl rfl rfl ?_
                          refine awl_nil ?_
                          refine aw_weak (weak_ofP [0, 1, 2, 3, 4, 5] (l := [(5, .ptr 0 0), (6, .d (.int .i64 (x58.Buses.length : Int))), (7, .d (.int .i64 x59)), (8, .row 2 x60.1.length 0 x60.1.length), (10, .row 3 x61.1.length 0 x61.1.length), (12, .row 4 x62.1.length 0 x62.1.length), (16, .row 5 x64.1.length 0 x64.1.length), (118, .d (.bool true))]) (objs := [.box [.d (.cx .f32 x58.Source.A.re x58.Source.A.im), .d (.cx .f32 x58.Source.B.re x58.Source.B.im), .d (.cx .f32 x58.Source.C.re x58.Source.C.im), .row 1 x58.Buses.length 0 x58.Buses.length], .row 8 (x58.Buses.map eSBus), .row 1 (x60.1.map eInti64), .row 1 (x61.1.map eInti64), .row 1 (x62.1.map eInti64), .row 1 (x64.1.map eInti64)]) rfl (by simp) rfl (by repeat' first | exact trivial | refine ⟨?_, ?_⟩) ⟨rfl, trivial, rfl, trivial, rfl, trivial, rfl, trivial, rfl, trivial, rfl, trivial, rfl, trivial, rfl, trivial, trivial⟩) ?_
                          exact hk204 true h
                        · have hb216 := not_f hb216
                          have h := if_t h hb216
                          refine awl_val hτ rfl rfl rfl ?_
                          refine awl_need hτ rfl rfl rfl (len_map _) ?_
                          refine awl_val hτ rfl rfl rfl ?_
                          refine awl_val hτ rfl rfl rfl ?_
                          refine awl_val hτ rfl rfl rfl ?_
                          refine awl_val hτ rfl rfl rfl ?_
                          refine awl_split 113 rfl (fun hb217 => ?_) (fun hb217 => ?_)
                          · have h := if_t h hb217
                            refine awl_skip rfl rfl ?_
                            refine awl_skip rfl rfl ?_
                            refine awl_skip rfl rfl ?_
                            refine awl_skip rfl rfl ?_
                            refine awl_val hτ rfl rfl rfl ?_
                            refine awl_nil ?_
                            refine aw_weak (weak_ofP [0, 1, 2, 3, 4, 5] (l := [(5, .ptr 0 0), (6, .d (.int .i64 (x58.Buses.length : Int))), (7, .d (.int .i64 x59)), (8, .row 2 x60.1.length 0 x60.1.length), (10, .row 3 x61.1.length 0 x61.1.length), (12, .row 4 x62.1.length 0 x62.1.length), (16, .row 5 x64.1.length 0 x64.1.length), (118, .d (.bool true))]) (objs := [.box [.d (.cx .f32 x58.Source.A.re x58.Source.A.im), .d (.cx .f32 x58.Source.B.re x58.Source.B.im), .d (.cx .f32 x58.Source.C.re x58.Source.C.im), .row 1 x58.Buses.length 0 x58.Buses.length], .row 8 (x58.Buses.map eSBus), .row 1 (x60.1.map eInti64), .row 1 (x61.1.map eInti64), .row 1 (x62.1.map eInti64), .row 1 (x64.1.map eInti64)]) rfl (by simp) rfl (by repeat' first | exact trivial | refine ⟨?_, ?_⟩) ⟨rfl, trivial, rfl, trivial, rfl, trivial, rfl, trivial, rfl, trivial, rfl, trivial, rfl, trivial, rfl, trivial, trivial⟩) ?_
                            exact hk204 true h
                          · have h := if_f h hb217
                            refine awl_val hτ rfl rfl rfl ?_
                            refine awl_need hτ rfl rfl rfl (len_map _) ?_
                            refine awl_val hτ rfl rfl rfl ?_
                            refine awl_val hτ (v := .d (.bool (!(decide ((x64.1.length : Int) = (x58.Buses.length : Int)))))) rfl rfl (or_ine _ _) ?_
                            refine awl_val hτ rfl rfl rfl ?_
                            refine awl_nil ?_
                            refine aw_weak (weak_ofP [0, 1, 2, 3, 4, 5] (l := [(5, .ptr 0 0), (6, .d (.int .i64 (x58.Buses.length : Int))), (7, .d (.int .i64 x59)), (8, .row 2 x60.1.length 0 x60.1.length), (10, .row 3 x61.1.length 0 x61.1.length), (12, .row 4 x62.1.length 0 x62.1.length), (16, .row 5 x64.1.length 0 x64.1.length), (118, .d (.bool (!(decide ((x64.1.length : Int) = (x58.Buses.length : Int))))))]) (objs := [.box [.d (.cx .f32 x58.Source.A.re x58.Source.A.im), .d (.cx .f32 x58.Source.B.re x58.Source.B.im), .d (.cx .f32 x58.Source.C.re x58.Source.C.im), .row 1 x58.Buses.length 0 x58.Buses.length], .row 8 (x58.Buses.map eSBus), .row 1 (x60.1.map eInti64), .row 1 (x61.1.map eInti64), .row 1 (x62.1.map eInti64), .row 1 (x64.1.map eInti64)]) rfl (by simp) rfl (by repeat' first | exact trivial | refine ⟨?_, ?_⟩) ⟨rfl, trivial, rfl, trivial, rfl, trivial, rfl, trivial, rfl, trivial, rfl, trivial, rfl, trivial, rfl, trivial, trivial⟩) ?_
                            exact hk204 (!(decide ((x64.1.length : Int) = (x58.Buses.length : Int)))) h
theorem laws_FnTrees_ok (n : Nat) (code_ : List Int) (more_ : List Int) {r : Bool} (h : m_laws_FnTrees n code_ more_ = some r) : ACall prog false 3 [.d (.sl false (code_.map eIntu8)), .d (.sl false (more_.map eIntu8))] [] (fun v o new => v = .d (.bool r) ∧ o = [] ∧ new = []) := laws_FnTrees_ok_fr0 false n code_ more_ h
theorem laws_FnTrees_ok_fr (n : Nat) (code_ : List Int) (more_ : List Int) {r : Bool} (h : m_laws_FnTrees n code_ more_ = some r) : ACall prog true 3 [.d (.sl false (code_.map eIntu8)), .d (.sl false (more_.map eIntu8))] [] (fun v o new => v = .d (.bool r) ∧ o = [] ∧ new = []) := laws_FnTrees_ok_fr0 true n code_ more_ h

end Go.Proofs.Ytkagbffdmppbhaa.AWN
