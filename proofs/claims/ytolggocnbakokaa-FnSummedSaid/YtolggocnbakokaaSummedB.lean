/- Models and contracts, printed by program. -/
import Derived.Test.YtolggocnbakokaaSummedA
set_option linter.unusedVariables false
set_option linter.unusedSimpArgs false
set_option maxHeartbeats 2000000
namespace Go.Proofs.Ytolggocnbakokaa.AWN
open Go Go.Proofs.Try

def m_impl_Feeder_back_l1 (n : Nat) (f_ : SFeeder) : Nat → List SPhases → Int → Option (List SPhases)
  | 0, _, _ => none
  | m35 + 1, v25, v26 =>
    if v26 > (0 : Int) then
      (getI v25 v26).bind fun x38 =>
      (m_impl_same n v26 x38).bind fun x39 =>
      (getI f_.Buses v26).bind fun x40 =>
      (getI (v25.set v26.toNat x39) x40.Parent).bind fun x41 =>
      (getI (v25.set v26.toNat x39) v26).bind fun x42 =>
      (m_impl_AddPhases n x41 x42).bind fun x43 =>
      (m_impl_Feeder_back_l1 n f_ m35) ((v25.set v26.toNat x39).set x40.Parent.toNat x43) (w64 (v26 - (1 : Int)))
    else
      some v25
def m_impl_Feeder_back (n : Nat) (f_ : SFeeder) (loads_ : List SPhases) : Option (List SPhases) :=
  (m_slices_Clone n loads_).bind fun x18 =>
  m_impl_Feeder_back_l1 n f_ n x18 (w64 ((x18.length : Int) - (1 : Int)))
theorem impl_Feeder_back_ok (n : Nat) (f_ : SFeeder) (loads_ : List SPhases) {r : List SPhases} (h : m_impl_Feeder_back n f_ loads_ = some r) : ACall prog false 76 [.ptr 0 0, .d (.sl false (loads_.map eSPhases)), .func 77 [] []] [.box [.d (.cx .f32 f_.Source.A.re f_.Source.A.im), .d (.cx .f32 f_.Source.B.re f_.Source.B.im), .d (.cx .f32 f_.Source.C.re f_.Source.C.im), .d (.sl false (f_.Buses.map eSBus))]] (fun v o new => v = .row 1 r.length 0 r.length ∧ o = [.box [.d (.cx .f32 f_.Source.A.re f_.Source.A.im), .d (.cx .f32 f_.Source.B.re f_.Source.B.im), .d (.cx .f32 f_.Source.C.re f_.Source.C.im), .d (.sl false (f_.Buses.map eSBus))]] ∧ new = [.row 3 (r.map eSPhases)]) := by
  refine acall_of_aw hτ func76 rfl (by simp) (by simp) ?_
  unfold m_impl_Feeder_back at h
  refine aw_seq ?_
  refine aw_region ?_
  refine awl_val hτ rfl rfl rfl ?_
  refine awl_nil ?_
  refine aw_seq ?_
  refine aw_region ?_
  refine awl_val hτ rfl rfl rfl ?_
  refine bnd_elim h fun x18 hx18 h => ?_
  refine awl_callP hτ false [] rfl rfl rfl (enterOk func105 rfl rfl) rfl rfl (by simp) ⟨trivial, trivial⟩ (by repeat' first | exact trivial | refine ⟨?_, ?_⟩) (slices_Clone_ok n loads_ hx18) ?_
  rintro r0 o0 n0 ⟨rfl, rfl, rfl⟩ -
  refine awl_val hτ rfl rfl rfl ?_
  refine awl_nil ?_
  refine aw_seq ?_
  refine aw_seq ?_
  refine aw_region ?_
  refine awl_val hτ rfl rfl rfl ?_
  refine awl_need hτ rfl rfl rfl (len_map _) ?_
  refine awl_val hτ rfl rfl rfl ?_
  refine awl_val hτ rfl rfl rfl ?_
  refine awl_nil ?_
  refine aw_block ?_
  refine aw_loop (ι := Nat × List SPhases × Int) (fun (m35, v25, v26) => St.of [(0, .ptr 0 0), (2, .func 77 [] []), (7, .row 1 v25.length 0 v25.length), (8, .d (.int .i64 v26))] [.box [.d (.cx .f32 f_.Source.A.re f_.Source.A.im), .d (.cx .f32 f_.Source.B.re f_.Source.B.im), .d (.cx .f32 f_.Source.C.re f_.Source.C.im), .d (.sl false (f_.Buses.map eSBus))], .row 3 (v25.map eSPhases)] f76.ntmps 1) (fun (m35, v25, v26) => m_impl_Feeder_back_l1 n f_ m35 v25 v26 = some r) (fun x => x.1) (n, x18, (w64 ((x18.length : Int) - (1 : Int)))) h (weak_ofP [0, 1] (l := [(0, .ptr 0 0), (2, .func 77 [] []), (7, .row 1 x18.length 0 x18.length), (8, .d (.int .i64 (w64 ((x18.length : Int) - (1 : Int)))))]) (objs := [.box [.d (.cx .f32 f_.Source.A.re f_.Source.A.im), .d (.cx .f32 f_.Source.B.re f_.Source.B.im), .d (.cx .f32 f_.Source.C.re f_.Source.C.im), .d (.sl false (f_.Buses.map eSBus))], .row 3 (x18.map eSPhases)]) rfl (by simp) rfl (by repeat' first | exact trivial | refine ⟨?_, ?_⟩) ⟨rfl, trivial, rfl, (by repeat' first | exact trivial | refine ⟨?_, ?_⟩), rfl, trivial, rfl, trivial, trivial⟩) ?_
  rintro ⟨m35, v25, v26⟩ h
  replace h : m_impl_Feeder_back_l1 n f_ m35 v25 v26 = some r := h
  rcases m35 with _ | m35
  · rw [m_impl_Feeder_back_l1] at h; cases h
  rw [m_impl_Feeder_back_l1] at h
  refine aw_seq ?_
  refine aw_seq ?_
  refine aw_region ?_
  refine awl_val hτ rfl rfl rfl ?_
  refine awl_val hτ rfl rfl rfl ?_
  refine awl_nil ?_
  refine aw_cond rfl (fun hc37 => ?_) (fun hc37 => ?_)
  · have h := if_t h hc37
    refine aw_skip ?_
    refine aw_seq ?_
    refine aw_block ?_
    refine aw_seq ?_
    refine aw_region ?_
    refine awl_val hτ rfl rfl rfl ?_
    refine awl_val hτ rfl rfl rfl ?_
    refine awl_val hτ rfl rfl rfl ?_
    refine awl_val hτ rfl rfl rfl ?_
    refine awl_val hτ rfl rfl rfl ?_
    refine awl_val hτ rfl rfl rfl ?_
    refine bnd_elim h fun x38 hx38 h => ?_
    refine awl_need hτ rfl rfl rfl (row_need hx38) ?_
    refine awl_elem hτ rfl rfl rfl (len_map _) (row_get hx38) rfl ?_
    refine bnd_elim h fun x39 hx39 h => ?_
    refine awl_callP hτ false [] rfl rfl rfl (enterOk func77 rfl rfl) rfl rfl (by simp) ⟨trivial, (by repeat' first | exact trivial | refine ⟨?_, ?_⟩), trivial⟩ (by repeat' first | exact trivial | refine ⟨?_, ?_⟩) (impl_same_ok n v26 x38 hx39) ?_
    rintro r0 o0 n0 ⟨rfl, rfl, rfl⟩ -
    refine awl_need hτ rfl rfl rfl (row_need hx38) ?_
    refine awl_weak (weak_ofP [0, 1] (l := [(0, .ptr 0 0), (2, .func 77 [] []), (7, .row 1 v25.length 0 v25.length), (8, .d (.int .i64 v26)), (27, .agg [.d (.cx .f32 x39.A.re x39.A.im), .d (.cx .f32 x39.B.re x39.B.im), .d (.cx .f32 x39.C.re x39.C.im)]), (28, .eptr 1 v25.length (0 + v26.toNat) 0)]) (objs := [.box [.d (.cx .f32 f_.Source.A.re f_.Source.A.im), .d (.cx .f32 f_.Source.B.re f_.Source.B.im), .d (.cx .f32 f_.Source.C.re f_.Source.C.im), .d (.sl false (f_.Buses.map eSBus))], .row 3 (v25.map eSPhases)]) rfl (by simp) rfl (by repeat' first | exact trivial | refine ⟨?_, ?_⟩) ⟨rfl, trivial, rfl, (by repeat' first | exact trivial | refine ⟨?_, ?_⟩), rfl, trivial, rfl, trivial, rfl, (by repeat' first | exact trivial | refine ⟨?_, ?_⟩), rfl, trivial, trivial⟩) ?_
    refine awl_elemH hτ rfl rfl rfl (len_map _) (row_get hx38) (set_val (f := eSPhases) (l := v25) (i := v26) (y := x39) rfl) ?_
    refine awl_nil ?_
    refine aw_seq ?_
    refine aw_region ?_
    refine awl_val hτ rfl rfl rfl ?_
    refine awl_val hτ rfl rfl rfl ?_
    refine awl_val hτ rfl rfl rfl ?_
    refine awl_val hτ rfl rfl rfl ?_
    refine awl_val hτ rfl rfl rfl ?_
    refine bnd_elim h fun x40 hx40 h => ?_
    refine awl_elem hτ rfl rfl rfl (getI_some hx40).1 (map_getI hx40) rfl ?_
    refine awl_val hτ rfl rfl rfl ?_
    refine awl_val hτ rfl rfl rfl ?_
    refine awl_val hτ rfl rfl rfl ?_
    refine awl_nil ?_
    refine aw_weak (weak_ofP [0, 1] (l := [(0, .ptr 0 0), (2, .func 77 [] []), (7, .row 1 ((v25.set v26.toNat x39).length) 0 ((v25.set v26.toNat x39).length)), (8, .d (.int .i64 v26)), (9, .d (.int .i64 x40.Parent))]) (objs := [.box [.d (.cx .f32 f_.Source.A.re f_.Source.A.im), .d (.cx .f32 f_.Source.B.re f_.Source.B.im), .d (.cx .f32 f_.Source.C.re f_.Source.C.im), .d (.sl false (f_.Buses.map eSBus))], .row 3 ((v25.set v26.toNat x39).map eSPhases)]) rfl (by simp) rfl (by repeat' first | exact trivial | refine ⟨?_, ?_⟩) ⟨rfl, trivial, rfl, (by repeat' first | exact trivial | refine ⟨?_, ?_⟩), (exV_rowL rfl (by simp)), trivial, rfl, trivial, rfl, trivial, trivial⟩) ?_
    refine any_start ?_
    refine any_val hτ [] 0 rfl rfl rfl rfl rfl ?_
    refine any_val hτ [] 1 rfl rfl rfl rfl rfl ?_
    refine any_val hτ [] 2 rfl rfl rfl rfl rfl ?_
    refine any_val hτ [] 3 rfl rfl rfl rfl rfl ?_
    refine bnd_elim h fun x41 hx41 h => ?_
    refine any_need hτ [1] 4 rfl rfl rfl rfl rfl (row_need hx41) ?_
    refine any_elem hτ [1] 5 rfl rfl rfl rfl rfl (len_map _) (row_get hx41) rfl ?_
    refine any_val hτ [] 6 rfl rfl rfl rfl rfl ?_
    refine any_val hτ [] 7 rfl rfl rfl rfl rfl ?_
    refine bnd_elim h fun x42 hx42 h => ?_
    refine any_need hτ [1] 8 rfl rfl rfl rfl rfl (row_need hx42) ?_
    refine any_elem hτ [1] 9 rfl rfl rfl rfl rfl (len_map _) (row_get hx42) rfl ?_
    refine bnd_elim h fun x43 hx43 h => ?_
    refine any_callP hτ false [] [0, 1] 10 rfl rfl rfl rfl (enterOk func106 rfl rfl) rfl rfl (by simp) ⟨(by repeat' first | exact trivial | refine ⟨?_, ?_⟩), (by repeat' first | exact trivial | refine ⟨?_, ?_⟩), trivial⟩ (by repeat' first | exact trivial | refine ⟨?_, ?_⟩) (impl_AddPhases_ok n x41 x42 hx43) ⟨rfl, rfl, trivial⟩ ?_
    refine any_need hτ [1] 11 rfl rfl rfl rfl rfl (row_need hx41) ?_
    refine any_elemHP hτ [0] 12 rfl rfl rfl rfl (len_map _) (row_get hx41) (set_val (f := eSPhases) (l := (v25.set v26.toNat x39)) (i := x40.Parent) (y := x43) rfl) ⟨rfl, trivial⟩ ?_
    refine any_done mixed (by kernel_rfl) ?_
    refine aw_weak (weak_ofP [0, 1] (l := [(0, .ptr 0 0), (2, .func 77 [] []), (7, .row 1 (((v25.set v26.toNat x39).set x40.Parent.toNat x43).length) 0 (((v25.set v26.toNat x39).set x40.Parent.toNat x43).length)), (8, .d (.int .i64 v26))]) (objs := [.box [.d (.cx .f32 f_.Source.A.re f_.Source.A.im), .d (.cx .f32 f_.Source.B.re f_.Source.B.im), .d (.cx .f32 f_.Source.C.re f_.Source.C.im), .d (.sl false (f_.Buses.map eSBus))], .row 3 (((v25.set v26.toNat x39).set x40.Parent.toNat x43).map eSPhases)]) rfl (by simp) rfl (by repeat' first | exact trivial | refine ⟨?_, ?_⟩) ⟨rfl, trivial, rfl, (by repeat' first | exact trivial | refine ⟨?_, ?_⟩), (exV_rowL rfl (by simp)), trivial, rfl, trivial, trivial⟩) ?_
    refine aw_region ?_
    refine awl_val hτ rfl rfl rfl ?_
    refine awl_val hτ rfl rfl rfl ?_
    refine awl_val hτ rfl rfl rfl ?_
    refine awl_nil ?_
    exact ⟨(m35, ((v25.set v26.toNat x39).set x40.Parent.toNat x43), (w64 (v26 - (1 : Int)))), h, Nat.lt_succ_self m35, (weak_ofP [0, 1] (l := [(0, .ptr 0 0), (2, .func 77 [] []), (7, .row 1 (((v25.set v26.toNat x39).set x40.Parent.toNat x43).length) 0 (((v25.set v26.toNat x39).set x40.Parent.toNat x43).length)), (8, .d (.int .i64 (w64 (v26 - (1 : Int)))))]) (objs := [.box [.d (.cx .f32 f_.Source.A.re f_.Source.A.im), .d (.cx .f32 f_.Source.B.re f_.Source.B.im), .d (.cx .f32 f_.Source.C.re f_.Source.C.im), .d (.sl false (f_.Buses.map eSBus))], .row 3 (((v25.set v26.toNat x39).set x40.Parent.toNat x43).map eSPhases)]) rfl (by simp) rfl (by repeat' first | exact trivial | refine ⟨?_, ?_⟩) ⟨rfl, trivial, rfl, (by repeat' first | exact trivial | refine ⟨?_, ?_⟩), rfl, trivial, rfl, trivial, trivial⟩)⟩
  · have h := if_f h hc37
    refine aw_exit ?_
    refine aw_seq ?_
    refine aw_region ?_
    refine awl_val hτ rfl rfl rfl ?_
    refine awl_val hτ rfl rfl rfl ?_
    refine awl_nil ?_
    refine aw_weak (weak_ofP [0, 1] (l := [(6, .row 1 v25.length 0 v25.length)]) (objs := [.box [.d (.cx .f32 f_.Source.A.re f_.Source.A.im), .d (.cx .f32 f_.Source.B.re f_.Source.B.im), .d (.cx .f32 f_.Source.C.re f_.Source.C.im), .d (.sl false (f_.Buses.map eSBus))], .row 3 (v25.map eSPhases)]) rfl (by simp) rfl (by repeat' first | exact trivial | refine ⟨?_, ?_⟩) ⟨rfl, trivial, trivial⟩) ?_
    refine aw_ret ?_
    have hr := Option.some.inj h
    subst hr
    exact ret_objs (.inr rfl) [1] (objs' := [.box [.d (.cx .f32 f_.Source.A.re f_.Source.A.im), .d (.cx .f32 f_.Source.B.re f_.Source.B.im), .d (.cx .f32 f_.Source.C.re f_.Source.C.im), .d (.sl false (f_.Buses.map eSBus))]]) (new := [.row 3 (v25.map eSPhases)]) rfl (by simp) (by simp) rfl (by repeat' first | exact trivial | refine ⟨?_, ?_⟩) rfl rfl (by repeat' first | exact trivial | refine ⟨?_, ?_⟩) (fun h => nomatch h) ⟨rfl, rfl, rfl⟩

def m_impl_SumBack (n : Nat) (f_ : SFeeder) (loads_ : List SPhases) : Option (List SPhases × Bool) :=
  (m_impl_listFor n f_ loads_).bind fun x4 =>
  if x4 = true then
    (m_impl_Feeder_back n f_ loads_).bind fun x6 =>
    some (x6, true)
  else
    some (([] : List SPhases), false)
theorem impl_SumBack_ok_fr0 (fr : Bool) (n : Nat) (f_ : SFeeder) (loads_ : List SPhases) {r : List SPhases × Bool} (h : m_impl_SumBack n f_ loads_ = some r) : ACall prog fr 36 [.agg [.d (.cx .f32 f_.Source.A.re f_.Source.A.im), .d (.cx .f32 f_.Source.B.re f_.Source.B.im), .d (.cx .f32 f_.Source.C.re f_.Source.C.im), .d (.sl false (f_.Buses.map eSBus))], .d (.sl false (loads_.map eSPhases))] [] (fun v o new => v = .tup [.row 0 r.1.length 0 r.1.length, .d (.bool r.2)] ∧ o = [] ∧ new = [.row 3 (r.1.map eSPhases)]) := by
  refine acall_of_aw hτ func36 rfl (by simp) (by simp) ?_
  unfold m_impl_SumBack at h
  refine aw_seq ?_
  refine aw_region ?_
  refine awl_valH hτ rfl rfl rfl ?_
  refine awl_val hτ rfl rfl rfl ?_
  refine awl_val hτ rfl rfl rfl ?_
  refine awl_nil ?_
  refine aw_seq ?_
  refine aw_seq ?_
  refine aw_region ?_
  refine awl_val hτ rfl rfl rfl ?_
  refine awl_val hτ rfl rfl rfl ?_
  refine bnd_elim h fun x4 hx4 h => ?_
  refine awl_callP hτ false [] rfl rfl rfl (enterOk func75 rfl rfl) rfl rfl (by simp) ⟨(by repeat' first | exact trivial | refine ⟨?_, ?_⟩), trivial, trivial⟩ (by repeat' first | exact trivial | refine ⟨?_, ?_⟩) (impl_listFor_ok n f_ loads_ hx4) ?_
  rintro r0 o0 n0 ⟨rfl, rfl, rfl⟩ -
  refine awl_val hτ rfl rfl rfl ?_
  refine awl_nil ?_
  refine aw_weak (weak_ofP [0] (l := [(1, .d (.sl false (loads_.map eSPhases))), (2, .ptr 0 0), (9, .d (.bool (!x4)))]) (objs := [.box [.d (.cx .f32 f_.Source.A.re f_.Source.A.im), .d (.cx .f32 f_.Source.B.re f_.Source.B.im), .d (.cx .f32 f_.Source.C.re f_.Source.C.im), .d (.sl false (f_.Buses.map eSBus))]]) rfl (by simp) rfl (by repeat' first | exact trivial | refine ⟨?_, ?_⟩) ⟨rfl, trivial, rfl, trivial, rfl, trivial, trivial⟩) ?_
  refine aw_cond rfl (fun hc5 => ?_) (fun hc5 => ?_)
  · have hc5 := not_t hc5
    have h := if_bf h hc5
    refine aw_seq ?_
    refine aw_region ?_
    refine awl_val hτ rfl rfl rfl ?_
    refine awl_val hτ rfl rfl rfl ?_
    refine awl_nil ?_
    refine aw_weak (weak_ofP [] (l := [(4, .d (.nils)), (5, .d (.bool false))]) (objs := []) rfl (by simp) rfl (by repeat' first | exact trivial | refine ⟨?_, ?_⟩) ⟨rfl, trivial, rfl, trivial, trivial⟩) ?_
    refine aw_weak (weak_relax [3] (l' := [(4, .row 0 (([] : List SPhases).length) 0 (([] : List SPhases).length)), (5, .d (.bool false))]) (objs' := []) (.cons (.c (.ghost ⟨Nat.le_of_ble_eq_true rfl, Nat.le_of_ble_eq_true rfl⟩)) (.cons (.c (.refl _)) .nil)) .nil) ?_
    refine aw_ret ?_
    have hr := Option.some.inj h
    subst hr
    exact ret_objs (.inr rfl) [0] (objs' := []) (new := [.row 3 (([] : List SPhases).map eSPhases)]) rfl (by simp) (by simp) rfl (by repeat' first | exact trivial | refine ⟨?_, ?_⟩) rfl rfl (by repeat' first | exact trivial | refine ⟨?_, ?_⟩) (fun _ => ⟨by simp [V.flat, V.flatA, V.flatC, D.flat], (flat_cons (flat_row eSPhases_flat _) flat_nil)⟩) ⟨rfl, rfl, rfl⟩
  · have hc5 := not_f hc5
    have h := if_bt h hc5
    refine aw_skip ?_
    refine aw_seq ?_
    refine aw_region ?_
    refine awl_val hτ rfl rfl rfl ?_
    refine bnd_elim h fun x6 hx6 h => ?_
    refine awl_callP hτ false [0] rfl rfl rfl (enterOk func76 rfl rfl) rfl rfl (by simp) ⟨trivial, trivial, (by repeat' first | exact trivial | refine ⟨?_, ?_⟩), trivial⟩ (by repeat' first | exact trivial | refine ⟨?_, ?_⟩) (impl_Feeder_back_ok n f_ loads_ hx6) ?_
    rintro r0 o0 n0 ⟨rfl, rfl, rfl⟩ -
    refine awl_val hτ rfl rfl rfl ?_
    refine awl_val hτ rfl rfl rfl ?_
    refine awl_nil ?_
    refine aw_weak (weak_ofP [1] (l := [(4, .row 0 x6.length 0 x6.length), (5, .d (.bool true))]) (objs := [.row 3 (x6.map eSPhases)]) rfl (by simp) rfl (by repeat' first | exact trivial | refine ⟨?_, ?_⟩) ⟨rfl, trivial, rfl, trivial, trivial⟩) ?_
    refine aw_ret ?_
    have hr := Option.some.inj h
    subst hr
    exact ret_objs (.inr rfl) [0] (objs' := []) (new := [.row 3 (x6.map eSPhases)]) rfl (by simp) (by simp) rfl (by repeat' first | exact trivial | refine ⟨?_, ?_⟩) rfl rfl (by repeat' first | exact trivial | refine ⟨?_, ?_⟩) (fun _ => ⟨by simp [V.flat, V.flatA, V.flatC, D.flat], (flat_cons (flat_row eSPhases_flat _) flat_nil)⟩) ⟨rfl, rfl, rfl⟩
theorem impl_SumBack_ok (n : Nat) (f_ : SFeeder) (loads_ : List SPhases) {r : List SPhases × Bool} (h : m_impl_SumBack n f_ loads_ = some r) : ACall prog false 36 [.agg [.d (.cx .f32 f_.Source.A.re f_.Source.A.im), .d (.cx .f32 f_.Source.B.re f_.Source.B.im), .d (.cx .f32 f_.Source.C.re f_.Source.C.im), .d (.sl false (f_.Buses.map eSBus))], .d (.sl false (loads_.map eSPhases))] [] (fun v o new => v = .tup [.row 0 r.1.length 0 r.1.length, .d (.bool r.2)] ∧ o = [] ∧ new = [.row 3 (r.1.map eSPhases)]) := impl_SumBack_ok_fr0 false n f_ loads_ h
theorem impl_SumBack_ok_fr (n : Nat) (f_ : SFeeder) (loads_ : List SPhases) {r : List SPhases × Bool} (h : m_impl_SumBack n f_ loads_ = some r) : ACall prog true 36 [.agg [.d (.cx .f32 f_.Source.A.re f_.Source.A.im), .d (.cx .f32 f_.Source.B.re f_.Source.B.im), .d (.cx .f32 f_.Source.C.re f_.Source.C.im), .d (.sl false (f_.Buses.map eSBus))], .d (.sl false (loads_.map eSPhases))] [] (fun v o new => v = .tup [.row 0 r.1.length 0 r.1.length, .d (.bool r.2)] ∧ o = [] ∧ new = [.row 3 (r.1.map eSPhases)]) := impl_SumBack_ok_fr0 true n f_ loads_ h

def m_impl_Feeder_has (n : Nat) (f_ : SFeeder) (bus_ : Int) : Option Bool :=
  (m_impl_ValidFeeder n f_).bind fun x5 =>
  if x5 = true then
    (m_impl_in n bus_ (0 : Int) (w64 ((f_.Buses.length : Int) - (1 : Int)))).bind fun x7 =>
    some x7
  else
    some false
theorem impl_Feeder_has_ok (n : Nat) (f_ : SFeeder) (bus_ : Int) {r : Bool} (h : m_impl_Feeder_has n f_ bus_ = some r) : ACall prog false 78 [.ptr 0 0, .d (.int .i64 bus_)] [.box [.d (.cx .f32 f_.Source.A.re f_.Source.A.im), .d (.cx .f32 f_.Source.B.re f_.Source.B.im), .d (.cx .f32 f_.Source.C.re f_.Source.C.im), .d (.sl false (f_.Buses.map eSBus))]] (fun v o new => v = .d (.bool r) ∧ o = [.box [.d (.cx .f32 f_.Source.A.re f_.Source.A.im), .d (.cx .f32 f_.Source.B.re f_.Source.B.im), .d (.cx .f32 f_.Source.C.re f_.Source.C.im), .d (.sl false (f_.Buses.map eSBus))]] ∧ new = []) := by
  refine acall_of_aw hτ func78 rfl (by simp) (by simp) ?_
  unfold m_impl_Feeder_has at h
  refine aw_seq ?_
  refine aw_region ?_
  refine awl_val hτ rfl rfl rfl ?_
  refine awl_nil ?_
  refine aw_seq ?_
  refine aw_region ?_
  refine awl_val hτ rfl rfl rfl ?_
  refine awl_val hτ rfl rfl rfl ?_
  refine awl_val hτ rfl rfl rfl ?_
  refine bnd_elim h fun x5 hx5 h => ?_
  refine awl_callP hτ false [] rfl rfl rfl (enterOk func104 rfl rfl) rfl rfl (by simp) ⟨(by repeat' first | exact trivial | refine ⟨?_, ?_⟩), trivial⟩ (by repeat' first | exact trivial | refine ⟨?_, ?_⟩) (impl_ValidFeeder_ok n f_ hx5) ?_
  rintro r0 o0 n0 ⟨rfl, rfl, rfl⟩ -
  refine awl_val hτ rfl rfl rfl ?_
  refine awl_split 9 rfl (fun hb6 => ?_) (fun hb6 => ?_)
  · have h := if_bt h hb6
    refine awl_val hτ rfl rfl rfl ?_
    refine awl_val hτ rfl rfl rfl ?_
    refine awl_val hτ rfl rfl rfl ?_
    refine awl_val hτ rfl rfl rfl ?_
    refine awl_val hτ rfl rfl rfl ?_
    refine awl_val hτ (v := .d (.int .i64 (f_.Buses.length : Int))) rfl rfl (Eq.trans rfl (or_len (f := eSBus) f_.Buses)) ?_
    refine awl_weak (weak_ofP [0] (l := [(4, .d (.bool false)), (9, .d (.bool true)), (10, .d (.int .i64 bus_)), (15, .d (.int .i64 (f_.Buses.length : Int)))]) (objs := [.box [.d (.cx .f32 f_.Source.A.re f_.Source.A.im), .d (.cx .f32 f_.Source.B.re f_.Source.B.im), .d (.cx .f32 f_.Source.C.re f_.Source.C.im), .d (.sl false (f_.Buses.map eSBus))]]) rfl (by simp) rfl (by repeat' first | exact trivial | refine ⟨?_, ?_⟩) ⟨rfl, trivial, rfl, trivial, rfl, trivial, rfl, trivial, trivial⟩) ?_
    refine awl_val hτ rfl rfl rfl ?_
    refine bnd_elim h fun x7 hx7 h => ?_
    refine awl_callP hτ false [] rfl rfl rfl (enterOk func60 rfl rfl) rfl rfl (by simp) ⟨trivial, trivial, trivial, trivial⟩ (by repeat' first | exact trivial | refine ⟨?_, ?_⟩) (impl_in_ok n bus_ (0 : Int) (w64 ((f_.Buses.length : Int) - (1 : Int))) hx7) ?_
    rintro r0 o0 n0 ⟨rfl, rfl, rfl⟩ -
    refine awl_val hτ rfl rfl rfl ?_
    refine awl_val hτ rfl rfl rfl ?_
    refine awl_nil ?_
    refine aw_weak (weak_ofP [0] (l := [(4, .d (.bool x7))]) (objs := [.box [.d (.cx .f32 f_.Source.A.re f_.Source.A.im), .d (.cx .f32 f_.Source.B.re f_.Source.B.im), .d (.cx .f32 f_.Source.C.re f_.Source.C.im), .d (.sl false (f_.Buses.map eSBus))]]) rfl (by simp) rfl (by repeat' first | exact trivial | refine ⟨?_, ?_⟩) ⟨rfl, trivial, trivial⟩) ?_
    refine aw_ret ?_
    have hr := Option.some.inj h
    subst hr
    exact ret_objs (.inr rfl) [] (objs' := [.box [.d (.cx .f32 f_.Source.A.re f_.Source.A.im), .d (.cx .f32 f_.Source.B.re f_.Source.B.im), .d (.cx .f32 f_.Source.C.re f_.Source.C.im), .d (.sl false (f_.Buses.map eSBus))]]) (new := []) rfl (by simp) (by simp) rfl (by repeat' first | exact trivial | refine ⟨?_, ?_⟩) rfl rfl (by repeat' first | exact trivial | refine ⟨?_, ?_⟩) (fun h => nomatch h) ⟨rfl, rfl, rfl⟩
  · have h := if_bf h hb6
    refine awl_skip rfl rfl ?_
    refine awl_skip rfl rfl ?_
    refine awl_skip rfl rfl ?_
    refine awl_skip rfl rfl ?_
    refine awl_skip rfl rfl ?_
    refine awl_skip rfl rfl ?_
    refine awl_weak (weak_ofP [0] (l := [(4, .d (.bool false)), (9, .d (.bool false)), (10, .und), (15, .und)]) (objs := [.box [.d (.cx .f32 f_.Source.A.re f_.Source.A.im), .d (.cx .f32 f_.Source.B.re f_.Source.B.im), .d (.cx .f32 f_.Source.C.re f_.Source.C.im), .d (.sl false (f_.Buses.map eSBus))]]) rfl (by simp) rfl (by repeat' first | exact trivial | refine ⟨?_, ?_⟩) ⟨rfl, trivial, rfl, trivial, rfl, trivial, rfl, trivial, trivial⟩) ?_
    refine awl_skip rfl rfl ?_
    refine awl_skip rfl rfl ?_
    refine awl_val hτ rfl rfl rfl ?_
    refine awl_val hτ rfl rfl rfl ?_
    refine awl_nil ?_
    refine aw_weak (weak_ofP [0] (l := [(4, .d (.bool false))]) (objs := [.box [.d (.cx .f32 f_.Source.A.re f_.Source.A.im), .d (.cx .f32 f_.Source.B.re f_.Source.B.im), .d (.cx .f32 f_.Source.C.re f_.Source.C.im), .d (.sl false (f_.Buses.map eSBus))]]) rfl (by simp) rfl (by repeat' first | exact trivial | refine ⟨?_, ?_⟩) ⟨rfl, trivial, trivial⟩) ?_
    refine aw_ret ?_
    have hr := Option.some.inj h
    subst hr
    exact ret_objs (.inr rfl) [] (objs' := [.box [.d (.cx .f32 f_.Source.A.re f_.Source.A.im), .d (.cx .f32 f_.Source.B.re f_.Source.B.im), .d (.cx .f32 f_.Source.C.re f_.Source.C.im), .d (.sl false (f_.Buses.map eSBus))]]) (new := []) rfl (by simp) (by simp) rfl (by repeat' first | exact trivial | refine ⟨?_, ?_⟩) rfl rfl (by repeat' first | exact trivial | refine ⟨?_, ?_⟩) (fun h => nomatch h) ⟨rfl, rfl, rfl⟩

def m_slices_Index_l1 (n : Nat) (s_ : List Int) (v_ : Int) : Nat → Int → Option Int
  | 0, _ => none
  | m9 + 1, v6 =>
    if v6 < (s_.length : Int) then
      (getI s_ v6).bind fun x13 =>
      if v_ = x13 then
        some v6
      else
        (m_slices_Index_l1 n s_ v_ m9) (w64 (v6 + (1 : Int)))
    else
      some (-1 : Int)
def m_slices_Index (n : Nat) (s_ : List Int) (v_ : Int) : Option Int :=
  m_slices_Index_l1 n s_ v_ n (0 : Int)
theorem slices_Index_ok_fr0 (fr : Bool) (n : Nat) (s_ : List Int) (v_ : Int) {r : Int} (h : m_slices_Index n s_ v_ = some r) : ACall prog fr 129 [.d (.sl false (s_.map eInti64)), .d (.int .i64 v_)] [] (fun v o new => v = .d (.int .i64 r) ∧ o = [] ∧ new = []) := by
  refine acall_of_aw hτ func129 rfl (by simp) (by simp) ?_
  unfold m_slices_Index at h
  refine aw_seq ?_
  refine aw_region ?_
  refine awl_val hτ rfl rfl rfl ?_
  refine awl_nil ?_
  refine aw_seq ?_
  refine aw_seq ?_
  refine aw_region ?_
  refine awl_val hτ rfl rfl rfl ?_
  refine awl_val hτ (v := .d (.int .i64 (s_.length : Int))) rfl rfl (Eq.trans rfl (or_len (f := eInti64) s_)) ?_
  refine awl_val hτ rfl rfl rfl ?_
  refine awl_nil ?_
  refine aw_block ?_
  refine aw_loop (ι := Nat × Int) (fun (m9, v6) => St.of [(0, .d (.sl false (s_.map eInti64))), (1, .d (.int .i64 v_)), (7, .d (.int .i64 (s_.length : Int))), (8, .d (.int .i64 v6))] [] f129.ntmps 0) (fun (m9, v6) => m_slices_Index_l1 n s_ v_ m9 v6 = some r) (fun x => x.1) (n, (0 : Int)) h (weak_ofP [] (l := [(0, .d (.sl false (s_.map eInti64))), (1, .d (.int .i64 v_)), (7, .d (.int .i64 (s_.length : Int))), (8, .d (.int .i64 (0 : Int)))]) (objs := []) rfl (by simp) rfl (by repeat' first | exact trivial | refine ⟨?_, ?_⟩) ⟨rfl, trivial, rfl, trivial, rfl, trivial, rfl, trivial, trivial⟩) ?_
  rintro ⟨m9, v6⟩ h
  replace h : m_slices_Index_l1 n s_ v_ m9 v6 = some r := h
  rcases m9 with _ | m9
  · rw [m_slices_Index_l1] at h; cases h
  rw [m_slices_Index_l1] at h
  refine aw_seq ?_
  refine aw_region ?_
  refine awl_val hτ rfl rfl rfl ?_
  refine awl_nil ?_
  refine aw_seq ?_
  refine aw_cond rfl (fun hc11 => ?_) (fun hc11 => ?_)
  · have h := if_t h hc11
    refine aw_skip ?_
    refine aw_seq ?_
    refine aw_block ?_
    refine aw_seq ?_
    refine aw_region ?_
    refine awl_val hτ rfl rfl rfl ?_
    refine awl_val hτ rfl rfl rfl ?_
    refine awl_nil ?_
    refine aw_seq ?_
    refine aw_region ?_
    refine awl_val hτ rfl rfl rfl ?_
    refine awl_val hτ rfl rfl rfl ?_
    refine awl_val hτ rfl rfl rfl ?_
    refine bnd_elim h fun x13 hx13 h => ?_
    refine awl_elem hτ rfl rfl rfl (getI_some hx13).1 (map_getI hx13) rfl ?_
    refine awl_val hτ rfl rfl rfl ?_
    refine awl_val hτ (v := .d (.bool (decide (v_ = x13)))) rfl rfl (or_ieq _ _) ?_
    refine awl_nil ?_
    refine aw_weak (weak_ofP [] (l := [(0, .d (.sl false (s_.map eInti64))), (1, .d (.int .i64 v_)), (5, .d (.int .i64 v6)), (7, .d (.int .i64 (s_.length : Int))), (8, .d (.int .i64 v6)), (16, .d (.bool (decide (v_ = x13))))]) (objs := []) rfl (by simp) rfl (by repeat' first | exact trivial | refine ⟨?_, ?_⟩) ⟨rfl, trivial, rfl, trivial, rfl, trivial, rfl, trivial, rfl, trivial, rfl, trivial, trivial⟩) ?_
    refine aw_cond rfl (fun hc14 => ?_) (fun hc14 => ?_)
    · have h := if_t h hc14
      refine aw_seq ?_
      refine aw_region ?_
      refine awl_val hτ rfl rfl rfl ?_
      refine awl_val hτ rfl rfl rfl ?_
      refine awl_nil ?_
      refine aw_weak (weak_ofP [] (l := [(4, .d (.int .i64 v6))]) (objs := []) rfl (by simp) rfl (by repeat' first | exact trivial | refine ⟨?_, ?_⟩) ⟨rfl, trivial, trivial⟩) ?_
      refine aw_ret ?_
      have hr := Option.some.inj h
      subst hr
      exact ret_objs (.inr rfl) [] (objs' := []) (new := []) rfl (by simp) (by simp) rfl (by repeat' first | exact trivial | refine ⟨?_, ?_⟩) rfl rfl (by repeat' first | exact trivial | refine ⟨?_, ?_⟩) (fun _ => ⟨by simp [V.flat, V.flatA, V.flatC, D.flat], flat_nil⟩) ⟨rfl, rfl, rfl⟩
    · have h := if_f h hc14
      refine aw_skip ?_
      refine aw_region ?_
      refine awl_val hτ rfl rfl rfl ?_
      refine awl_val hτ rfl rfl rfl ?_
      refine awl_nil ?_
      exact ⟨(m9, (w64 (v6 + (1 : Int)))), h, Nat.lt_succ_self m9, (weak_ofP [] (l := [(0, .d (.sl false (s_.map eInti64))), (1, .d (.int .i64 v_)), (7, .d (.int .i64 (s_.length : Int))), (8, .d (.int .i64 (w64 (v6 + (1 : Int)))))]) (objs := []) rfl (by simp) rfl (by repeat' first | exact trivial | refine ⟨?_, ?_⟩) ⟨rfl, trivial, rfl, trivial, rfl, trivial, rfl, trivial, trivial⟩)⟩
  · have h := if_f h hc11
    refine aw_exit ?_
    refine aw_seq ?_
    refine aw_region ?_
    refine awl_val hτ rfl rfl rfl ?_
    refine awl_nil ?_
    refine aw_weak (weak_ofP [] (l := [(4, .d (.int .i64 (-1 : Int)))]) (objs := []) rfl (by simp) rfl (by repeat' first | exact trivial | refine ⟨?_, ?_⟩) ⟨rfl, trivial, trivial⟩) ?_
    refine aw_ret ?_
    have hr := Option.some.inj h
    subst hr
    exact ret_objs (.inr rfl) [] (objs' := []) (new := []) rfl (by simp) (by simp) rfl (by repeat' first | exact trivial | refine ⟨?_, ?_⟩) rfl rfl (by repeat' first | exact trivial | refine ⟨?_, ?_⟩) (fun _ => ⟨by simp [V.flat, V.flatA, V.flatC, D.flat], flat_nil⟩) ⟨rfl, rfl, rfl⟩
theorem slices_Index_ok (n : Nat) (s_ : List Int) (v_ : Int) {r : Int} (h : m_slices_Index n s_ v_ = some r) : ACall prog false 129 [.d (.sl false (s_.map eInti64)), .d (.int .i64 v_)] [] (fun v o new => v = .d (.int .i64 r) ∧ o = [] ∧ new = []) := slices_Index_ok_fr0 false n s_ v_ h
theorem slices_Index_ok_fr (n : Nat) (s_ : List Int) (v_ : Int) {r : Int} (h : m_slices_Index n s_ v_ = some r) : ACall prog true 129 [.d (.sl false (s_.map eInti64)), .d (.int .i64 v_)] [] (fun v o new => v = .d (.int .i64 r) ∧ o = [] ∧ new = []) := slices_Index_ok_fr0 true n s_ v_ h

def m_slices_Contains (n : Nat) (s_ : List Int) (v_ : Int) : Option Bool :=
  (m_slices_Index n s_ v_).bind fun x2 =>
  some (decide (x2 ≥ (0 : Int)))
theorem slices_Contains_ok_fr0 (fr : Bool) (n : Nat) (s_ : List Int) (v_ : Int) {r : Bool} (h : m_slices_Contains n s_ v_ = some r) : ACall prog fr 107 [.d (.sl false (s_.map eInti64)), .d (.int .i64 v_)] [] (fun v o new => v = .d (.bool r) ∧ o = [] ∧ new = []) := by
  refine acall_of_aw hτ func107 rfl (by simp) (by simp) ?_
  unfold m_slices_Contains at h
  refine aw_seq ?_
  refine aw_region ?_
  refine awl_val hτ rfl rfl rfl ?_
  refine awl_nil ?_
  refine aw_seq ?_
  refine aw_region ?_
  refine awl_val hτ rfl rfl rfl ?_
  refine awl_val hτ rfl rfl rfl ?_
  refine bnd_elim h fun x2 hx2 h => ?_
  refine awl_callP hτ false [] rfl rfl rfl (enterOk func129 rfl rfl) rfl rfl (by simp) ⟨trivial, trivial, trivial⟩ (by repeat' first | exact trivial | refine ⟨?_, ?_⟩) (slices_Index_ok n s_ v_ hx2) ?_
  rintro r0 o0 n0 ⟨rfl, rfl, rfl⟩ -
  refine awl_val hτ rfl rfl rfl ?_
  refine awl_val hτ rfl rfl rfl ?_
  refine awl_nil ?_
  refine aw_weak (weak_ofP [] (l := [(4, .d (.bool (decide (x2 ≥ (0 : Int)))))]) (objs := []) rfl (by simp) rfl (by repeat' first | exact trivial | refine ⟨?_, ?_⟩) ⟨rfl, trivial, trivial⟩) ?_
  refine aw_ret ?_
  have hr := Option.some.inj h
  subst hr
  exact ret_objs (.inr rfl) [] (objs' := []) (new := []) rfl (by simp) (by simp) rfl (by repeat' first | exact trivial | refine ⟨?_, ?_⟩) rfl rfl (by repeat' first | exact trivial | refine ⟨?_, ?_⟩) (fun _ => ⟨by simp [V.flat, V.flatA, V.flatC, D.flat], flat_nil⟩) ⟨rfl, rfl, rfl⟩
theorem slices_Contains_ok (n : Nat) (s_ : List Int) (v_ : Int) {r : Bool} (h : m_slices_Contains n s_ v_ = some r) : ACall prog false 107 [.d (.sl false (s_.map eInti64)), .d (.int .i64 v_)] [] (fun v o new => v = .d (.bool r) ∧ o = [] ∧ new = []) := slices_Contains_ok_fr0 false n s_ v_ h
theorem slices_Contains_ok_fr (n : Nat) (s_ : List Int) (v_ : Int) {r : Bool} (h : m_slices_Contains n s_ v_ = some r) : ACall prog true 107 [.d (.sl false (s_.map eInti64)), .d (.int .i64 v_)] [] (fun v o new => v = .d (.bool r) ∧ o = [] ∧ new = []) := slices_Contains_ok_fr0 true n s_ v_ h

def m_impl_Feeder_below_j2 (n : Nat) (k26 : List Int → Int → Option (List Int)) (v18 : Int) (v32 : List Int) : Option (List Int) :=
  k26 v32 (w64 (v18 + (1 : Int)))
def m_impl_Feeder_below_l1 (n : Nat) (f_ : SFeeder) : Nat → List Int → Int → Option (List Int)
  | 0, _, _ => none
  | m25 + 1, v17, v18 =>
    if v18 < (f_.Buses.length : Int) then
      (getI f_.Buses v18).bind fun x34 =>
      (m_slices_Contains n v17 x34.Parent).bind fun x35 =>
      if x35 = true then
        grd (room (v17.length + 1) 8) <|
        m_impl_Feeder_below_j2 n (m_impl_Feeder_below_l1 n f_ m25) v18 (v17 ++ [v18])
      else
        m_impl_Feeder_below_j2 n (m_impl_Feeder_below_l1 n f_ m25) v18 v17
    else
      some v17
def m_impl_Feeder_below (n : Nat) (f_ : SFeeder) (bus_ : Int) : Option (List Int) :=
  m_impl_Feeder_below_l1 n f_ n [bus_] (w64 (bus_ + (1 : Int)))
theorem impl_Feeder_below_ok (n : Nat) (f_ : SFeeder) (bus_ : Int) {r : List Int} (h : m_impl_Feeder_below n f_ bus_ = some r) : ACall prog false 79 [.ptr 0 0, .d (.int .i64 bus_)] [.box [.d (.cx .f32 f_.Source.A.re f_.Source.A.im), .d (.cx .f32 f_.Source.B.re f_.Source.B.im), .d (.cx .f32 f_.Source.C.re f_.Source.C.im), .d (.sl false (f_.Buses.map eSBus))]] (fun v o new => v = .row 1 r.length 0 r.length ∧ o = [.box [.d (.cx .f32 f_.Source.A.re f_.Source.A.im), .d (.cx .f32 f_.Source.B.re f_.Source.B.im), .d (.cx .f32 f_.Source.C.re f_.Source.C.im), .d (.sl false (f_.Buses.map eSBus))]] ∧ new = [.row 1 (r.map eInti64)]) := by
  refine acall_of_aw hτ func79 rfl (by simp) (by simp) ?_
  unfold m_impl_Feeder_below at h
  refine aw_seq ?_
  refine aw_region ?_
  refine awl_val hτ rfl rfl rfl ?_
  refine awl_nil ?_
  refine aw_seq ?_
  refine aw_region ?_
  refine awl_val hτ rfl rfl rfl ?_
  refine awl_valH hτ rfl rfl rfl ?_
  refine awl_val hτ rfl rfl rfl ?_
  refine awl_nil ?_
  refine aw_seq ?_
  refine aw_seq ?_
  refine aw_region ?_
  refine awl_val hτ rfl rfl rfl ?_
  refine awl_val hτ rfl rfl rfl ?_
  refine awl_val hτ rfl rfl rfl ?_
  refine awl_nil ?_
  refine aw_block ?_
  refine aw_loop (ι := Nat × List Int × Int) (fun (m25, v17, v18) => St.of [(0, .ptr 0 0), (5, .row 1 v17.length 0 v17.length), (6, .d (.int .i64 v18))] [.box [.d (.cx .f32 f_.Source.A.re f_.Source.A.im), .d (.cx .f32 f_.Source.B.re f_.Source.B.im), .d (.cx .f32 f_.Source.C.re f_.Source.C.im), .d (.sl false (f_.Buses.map eSBus))], .row 1 (v17.map eInti64)] f79.ntmps 1) (fun (m25, v17, v18) => m_impl_Feeder_below_l1 n f_ m25 v17 v18 = some r) (fun x => x.1) (n, [bus_], (w64 (bus_ + (1 : Int)))) h (weak_ofP [0, 1] (l := [(0, .ptr 0 0), (5, .row 1 ([bus_].length) 0 ([bus_].length)), (6, .d (.int .i64 (w64 (bus_ + (1 : Int)))))]) (objs := [.box [.d (.cx .f32 f_.Source.A.re f_.Source.A.im), .d (.cx .f32 f_.Source.B.re f_.Source.B.im), .d (.cx .f32 f_.Source.C.re f_.Source.C.im), .d (.sl false (f_.Buses.map eSBus))], .row 1 ([bus_].map eInti64)]) rfl (by simp) rfl (by repeat' first | exact trivial | refine ⟨?_, ?_⟩) ⟨rfl, trivial, rfl, trivial, rfl, trivial, trivial⟩) ?_
  rintro ⟨m25, v17, v18⟩ h
  replace h : m_impl_Feeder_below_l1 n f_ m25 v17 v18 = some r := h
  rcases m25 with _ | m25
  · rw [m_impl_Feeder_below_l1] at h; cases h
  rw [m_impl_Feeder_below_l1] at h
  refine aw_seq ?_
  refine aw_seq ?_
  refine aw_region ?_
  refine awl_val hτ rfl rfl rfl ?_
  refine awl_val hτ rfl rfl rfl ?_
  refine awl_val hτ rfl rfl rfl ?_
  refine awl_val hτ rfl rfl rfl ?_
  refine awl_val hτ rfl rfl rfl ?_
  refine awl_val hτ (v := .d (.int .i64 (f_.Buses.length : Int))) rfl rfl (Eq.trans rfl (or_len (f := eSBus) f_.Buses)) ?_
  refine awl_val hτ rfl rfl rfl ?_
  refine awl_nil ?_
  refine aw_weak (weak_ofP [0, 1] (l := [(0, .ptr 0 0), (5, .row 1 v17.length 0 v17.length), (6, .d (.int .i64 v18)), (17, .d (.bool (decide (v18 < (f_.Buses.length : Int)))))]) (objs := [.box [.d (.cx .f32 f_.Source.A.re f_.Source.A.im), .d (.cx .f32 f_.Source.B.re f_.Source.B.im), .d (.cx .f32 f_.Source.C.re f_.Source.C.im), .d (.sl false (f_.Buses.map eSBus))], .row 1 (v17.map eInti64)]) rfl (by simp) rfl (by repeat' first | exact trivial | refine ⟨?_, ?_⟩) ⟨rfl, trivial, rfl, trivial, rfl, trivial, rfl, trivial, trivial⟩) ?_
  refine aw_cond rfl (fun hc27 => ?_) (fun hc27 => ?_)
  · have h := if_t h hc27
    refine aw_skip ?_
    refine aw_hk1 (ι := List Int) (fun v32 => St.of [(0, .ptr 0 0), (5, .row 1 v32.length 0 v32.length), (6, .d (.int .i64 v18))] [.box [.d (.cx .f32 f_.Source.A.re f_.Source.A.im), .d (.cx .f32 f_.Source.B.re f_.Source.B.im), .d (.cx .f32 f_.Source.C.re f_.Source.C.im), .d (.sl false (f_.Buses.map eSBus))], .row 1 (v32.map eInti64)] f79.ntmps 1) (fun v32 => m_impl_Feeder_below_j2 n (m_impl_Feeder_below_l1 n f_ m25) v18 v32 = some r) ?_ (fun hk33 => ?_)
    · rintro v32 h
      replace h : m_impl_Feeder_below_j2 n (m_impl_Feeder_below_l1 n f_ m25) v18 v32 = some r := h
      unfold m_impl_Feeder_below_j2 at h
      refine aw_region ?_
      refine awl_val hτ rfl rfl rfl ?_
      refine awl_val hτ rfl rfl rfl ?_
      refine awl_val hτ rfl rfl rfl ?_
      refine awl_nil ?_
      exact ⟨(m25, v32, (w64 (v18 + (1 : Int)))), h, Nat.lt_succ_self m25, (weak_ofP [0, 1] (l := [(0, .ptr 0 0), (5, .row 1 v32.length 0 v32.length), (6, .d (.int .i64 (w64 (v18 + (1 : Int)))))]) (objs := [.box [.d (.cx .f32 f_.Source.A.re f_.Source.A.im), .d (.cx .f32 f_.Source.B.re f_.Source.B.im), .d (.cx .f32 f_.Source.C.re f_.Source.C.im), .d (.sl false (f_.Buses.map eSBus))], .row 1 (v32.map eInti64)]) rfl (by simp) rfl (by repeat' first | exact trivial | refine ⟨?_, ?_⟩) ⟨rfl, trivial, rfl, trivial, rfl, trivial, trivial⟩)⟩
    · refine aw_seq ?_
      refine aw_block ?_
      refine aw_seq ?_
      refine aw_region ?_
      refine awl_val hτ rfl rfl rfl ?_
      refine awl_val hτ rfl rfl rfl ?_
      refine awl_val hτ rfl rfl rfl ?_
      refine awl_val hτ rfl rfl rfl ?_
      refine awl_val hτ rfl rfl rfl ?_
      refine awl_val hτ rfl rfl rfl ?_
      refine bnd_elim h fun x34 hx34 h => ?_
      refine awl_elem hτ rfl rfl rfl (getI_some hx34).1 (map_getI hx34) rfl ?_
      refine awl_val hτ rfl rfl rfl ?_
      refine awl_val hτ rfl rfl rfl ?_
      refine awl_weak (weak_ofP [0, 1] (l := [(0, .ptr 0 0), (5, .row 1 v17.length 0 v17.length), (6, .d (.int .i64 v18)), (20, .row 1 v17.length 0 v17.length), (28, .d (.int .i64 x34.Parent))]) (objs := [.box [.d (.cx .f32 f_.Source.A.re f_.Source.A.im), .d (.cx .f32 f_.Source.B.re f_.Source.B.im), .d (.cx .f32 f_.Source.C.re f_.Source.C.im), .d (.sl false (f_.Buses.map eSBus))], .row 1 (v17.map eInti64)]) rfl (by simp) rfl (by repeat' first | exact trivial | refine ⟨?_, ?_⟩) ⟨rfl, trivial, rfl, trivial, rfl, trivial, rfl, trivial, rfl, trivial, trivial⟩) ?_
      refine bnd_elim h fun x35 hx35 h => ?_
      refine awl_callP hτ true [] rfl rfl rfl (enterOk func107 rfl rfl) (mapO_cons (exV_view (f := eInti64) v17 rfl rfl rfl) (mapO_cons rfl mapO_nil)) rfl (by simp) ⟨(exVP_view (f := eInti64) v17 rfl rfl rfl), trivial, trivial⟩ (by repeat' first | exact trivial | refine ⟨?_, ?_⟩) (slices_Contains_ok_fr n v17 x34.Parent hx35) ?_
      rintro r0 o0 n0 ⟨rfl, rfl, rfl⟩ -
      refine awl_nil ?_
      refine aw_cond rfl (fun hc36 => ?_) (fun hc36 => ?_)
      · have h := if_bt h hc36
        refine aw_region ?_
        refine awl_val hτ rfl rfl rfl ?_
        refine awl_val hτ rfl rfl rfl ?_
        refine awl_valH hτ rfl rfl rfl ?_
        refine grd_elim h fun hg37 h => ?_
        refine awl_needH hτ rfl rfl (Eq.trans rfl (or_append (f := eInti64) v17 [v18] rfl)) ⟨⟨rfl, Nat.le_of_ble_eq_true rfl⟩, len_map _, rfl, rfl, hg37, by decide, (all1 rfl)⟩ ?_
        refine awl_val hτ rfl rfl rfl ?_
        refine awl_nil ?_
        refine aw_weak (weak_ofP [0, 1] (l := [(0, .ptr 0 0), (5, .row 1 ((v17 ++ [v18]).length) 0 ((v17 ++ [v18]).length)), (6, .d (.int .i64 v18))]) (objs := [.box [.d (.cx .f32 f_.Source.A.re f_.Source.A.im), .d (.cx .f32 f_.Source.B.re f_.Source.B.im), .d (.cx .f32 f_.Source.C.re f_.Source.C.im), .d (.sl false (f_.Buses.map eSBus))], .row 1 ((v17 ++ [v18]).map eInti64)]) rfl (by simp) rfl (by repeat' first | exact trivial | refine ⟨?_, ?_⟩) ⟨rfl, trivial, rfl, trivial, rfl, trivial, trivial⟩) ?_
        exact hk33 (v17 ++ [v18]) h
      · have h := if_bf h hc36
        refine aw_skip ?_
        refine aw_weak (weak_ofP [0, 1] (l := [(0, .ptr 0 0), (5, .row 1 v17.length 0 v17.length), (6, .d (.int .i64 v18))]) (objs := [.box [.d (.cx .f32 f_.Source.A.re f_.Source.A.im), .d (.cx .f32 f_.Source.B.re f_.Source.B.im), .d (.cx .f32 f_.Source.C.re f_.Source.C.im), .d (.sl false (f_.Buses.map eSBus))], .row 1 (v17.map eInti64)]) rfl (by simp) rfl (by repeat' first | exact trivial | refine ⟨?_, ?_⟩) ⟨rfl, trivial, rfl, trivial, rfl, trivial, trivial⟩) ?_
        exact hk33 v17 h
  · have h := if_f h hc27
    refine aw_exit ?_
    refine aw_seq ?_
    refine aw_region ?_
    refine awl_val hτ rfl rfl rfl ?_
    refine awl_val hτ rfl rfl rfl ?_
    refine awl_nil ?_
    refine aw_weak (weak_ofP [0, 1] (l := [(4, .row 1 v17.length 0 v17.length)]) (objs := [.box [.d (.cx .f32 f_.Source.A.re f_.Source.A.im), .d (.cx .f32 f_.Source.B.re f_.Source.B.im), .d (.cx .f32 f_.Source.C.re f_.Source.C.im), .d (.sl false (f_.Buses.map eSBus))], .row 1 (v17.map eInti64)]) rfl (by simp) rfl (by repeat' first | exact trivial | refine ⟨?_, ?_⟩) ⟨rfl, trivial, trivial⟩) ?_
    refine aw_ret ?_
    have hr := Option.some.inj h
    subst hr
    exact ret_objs (.inr rfl) [1] (objs' := [.box [.d (.cx .f32 f_.Source.A.re f_.Source.A.im), .d (.cx .f32 f_.Source.B.re f_.Source.B.im), .d (.cx .f32 f_.Source.C.re f_.Source.C.im), .d (.sl false (f_.Buses.map eSBus))]]) (new := [.row 1 (v17.map eInti64)]) rfl (by simp) (by simp) rfl (by repeat' first | exact trivial | refine ⟨?_, ?_⟩) rfl rfl (by repeat' first | exact trivial | refine ⟨?_, ?_⟩) (fun h => nomatch h) ⟨rfl, rfl, rfl⟩

def m_impl_BusesBelow (n : Nat) (f_ : SFeeder) (bus_ : Int) : Option (List Int × Bool) :=
  (m_impl_Feeder_has n f_ bus_).bind fun x4 =>
  if x4 = true then
    (m_impl_Feeder_below n f_ bus_).bind fun x6 =>
    some (x6, true)
  else
    some (([] : List Int), false)
theorem impl_BusesBelow_ok_fr0 (fr : Bool) (n : Nat) (f_ : SFeeder) (bus_ : Int) {r : List Int × Bool} (h : m_impl_BusesBelow n f_ bus_ = some r) : ACall prog fr 37 [.agg [.d (.cx .f32 f_.Source.A.re f_.Source.A.im), .d (.cx .f32 f_.Source.B.re f_.Source.B.im), .d (.cx .f32 f_.Source.C.re f_.Source.C.im), .d (.sl false (f_.Buses.map eSBus))], .d (.int .i64 bus_)] [] (fun v o new => v = .tup [.row 0 r.1.length 0 r.1.length, .d (.bool r.2)] ∧ o = [] ∧ new = [.row 1 (r.1.map eInti64)]) := by
  refine acall_of_aw hτ func37 rfl (by simp) (by simp) ?_
  unfold m_impl_BusesBelow at h
  refine aw_seq ?_
  refine aw_region ?_
  refine awl_valH hτ rfl rfl rfl ?_
  refine awl_val hτ rfl rfl rfl ?_
  refine awl_val hτ rfl rfl rfl ?_
  refine awl_nil ?_
  refine aw_seq ?_
  refine aw_seq ?_
  refine aw_region ?_
  refine awl_val hτ rfl rfl rfl ?_
  refine bnd_elim h fun x4 hx4 h => ?_
  refine awl_callP hτ false [0] rfl rfl rfl (enterOk func78 rfl rfl) rfl rfl (by simp) ⟨trivial, trivial, trivial⟩ (by repeat' first | exact trivial | refine ⟨?_, ?_⟩) (impl_Feeder_has_ok n f_ bus_ hx4) ?_
  rintro r0 o0 n0 ⟨rfl, rfl, rfl⟩ -
  refine awl_val hτ rfl rfl rfl ?_
  refine awl_nil ?_
  refine aw_weak (weak_ofP [0] (l := [(1, .d (.int .i64 bus_)), (2, .ptr 0 0), (8, .d (.bool (!x4)))]) (objs := [.box [.d (.cx .f32 f_.Source.A.re f_.Source.A.im), .d (.cx .f32 f_.Source.B.re f_.Source.B.im), .d (.cx .f32 f_.Source.C.re f_.Source.C.im), .d (.sl false (f_.Buses.map eSBus))]]) rfl (by simp) rfl (by repeat' first | exact trivial | refine ⟨?_, ?_⟩) ⟨rfl, trivial, rfl, trivial, rfl, trivial, trivial⟩) ?_
  refine aw_cond rfl (fun hc5 => ?_) (fun hc5 => ?_)
  · have hc5 := not_t hc5
    have h := if_bf h hc5
    refine aw_seq ?_
    refine aw_region ?_
    refine awl_val hτ rfl rfl rfl ?_
    refine awl_val hτ rfl rfl rfl ?_
    refine awl_nil ?_
    refine aw_weak (weak_ofP [] (l := [(4, .d (.nils)), (5, .d (.bool false))]) (objs := []) rfl (by simp) rfl (by repeat' first | exact trivial | refine ⟨?_, ?_⟩) ⟨rfl, trivial, rfl, trivial, trivial⟩) ?_
    refine aw_weak (weak_relax [1] (l' := [(4, .row 0 (([] : List Int).length) 0 (([] : List Int).length)), (5, .d (.bool false))]) (objs' := []) (.cons (.c (.ghost ⟨Nat.le_of_ble_eq_true rfl, Nat.le_of_ble_eq_true rfl⟩)) (.cons (.c (.refl _)) .nil)) .nil) ?_
    refine aw_ret ?_
    have hr := Option.some.inj h
    subst hr
    exact ret_objs (.inr rfl) [0] (objs' := []) (new := [.row 1 (([] : List Int).map eInti64)]) rfl (by simp) (by simp) rfl (by repeat' first | exact trivial | refine ⟨?_, ?_⟩) rfl rfl (by repeat' first | exact trivial | refine ⟨?_, ?_⟩) (fun _ => ⟨by simp [V.flat, V.flatA, V.flatC, D.flat], (flat_cons (flat_row eInti64_flat _) flat_nil)⟩) ⟨rfl, rfl, rfl⟩
  · have hc5 := not_f hc5
    have h := if_bt h hc5
    refine aw_skip ?_
    refine aw_seq ?_
    refine aw_region ?_
    refine awl_val hτ rfl rfl rfl ?_
    refine bnd_elim h fun x6 hx6 h => ?_
    refine awl_callP hτ false [0] rfl rfl rfl (enterOk func79 rfl rfl) rfl rfl (by simp) ⟨trivial, trivial, trivial⟩ (by repeat' first | exact trivial | refine ⟨?_, ?_⟩) (impl_Feeder_below_ok n f_ bus_ hx6) ?_
    rintro r0 o0 n0 ⟨rfl, rfl, rfl⟩ -
    refine awl_val hτ rfl rfl rfl ?_
    refine awl_val hτ rfl rfl rfl ?_
    refine awl_nil ?_
    refine aw_weak (weak_ofP [1] (l := [(4, .row 0 x6.length 0 x6.length), (5, .d (.bool true))]) (objs := [.row 1 (x6.map eInti64)]) rfl (by simp) rfl (by repeat' first | exact trivial | refine ⟨?_, ?_⟩) ⟨rfl, trivial, rfl, trivial, trivial⟩) ?_
    refine aw_ret ?_
    have hr := Option.some.inj h
    subst hr
    exact ret_objs (.inr rfl) [0] (objs' := []) (new := [.row 1 (x6.map eInti64)]) rfl (by simp) (by simp) rfl (by repeat' first | exact trivial | refine ⟨?_, ?_⟩) rfl rfl (by repeat' first | exact trivial | refine ⟨?_, ?_⟩) (fun _ => ⟨by simp [V.flat, V.flatA, V.flatC, D.flat], (flat_cons (flat_row eInti64_flat _) flat_nil)⟩) ⟨rfl, rfl, rfl⟩
theorem impl_BusesBelow_ok (n : Nat) (f_ : SFeeder) (bus_ : Int) {r : List Int × Bool} (h : m_impl_BusesBelow n f_ bus_ = some r) : ACall prog false 37 [.agg [.d (.cx .f32 f_.Source.A.re f_.Source.A.im), .d (.cx .f32 f_.Source.B.re f_.Source.B.im), .d (.cx .f32 f_.Source.C.re f_.Source.C.im), .d (.sl false (f_.Buses.map eSBus))], .d (.int .i64 bus_)] [] (fun v o new => v = .tup [.row 0 r.1.length 0 r.1.length, .d (.bool r.2)] ∧ o = [] ∧ new = [.row 1 (r.1.map eInti64)]) := impl_BusesBelow_ok_fr0 false n f_ bus_ h
theorem impl_BusesBelow_ok_fr (n : Nat) (f_ : SFeeder) (bus_ : Int) {r : List Int × Bool} (h : m_impl_BusesBelow n f_ bus_ = some r) : ACall prog true 37 [.agg [.d (.cx .f32 f_.Source.A.re f_.Source.A.im), .d (.cx .f32 f_.Source.B.re f_.Source.B.im), .d (.cx .f32 f_.Source.C.re f_.Source.C.im), .d (.sl false (f_.Buses.map eSBus))], .d (.int .i64 bus_)] [] (fun v o new => v = .tup [.row 0 r.1.length 0 r.1.length, .d (.bool r.2)] ∧ o = [] ∧ new = [.row 1 (r.1.map eInti64)]) := impl_BusesBelow_ok_fr0 true n f_ bus_ h

def m_spec_l02Add (n : Nat) (a_ : SPhases) (b_ : SPhases) : Option SPhases :=
  some (SPhases.mk (Cx.mk (farith .add .f32 a_.A.re b_.A.re) (farith .add .f32 a_.A.im b_.A.im)) (Cx.mk (farith .add .f32 a_.B.re b_.B.re) (farith .add .f32 a_.B.im b_.B.im)) (Cx.mk (farith .add .f32 a_.C.re b_.C.re) (farith .add .f32 a_.C.im b_.C.im)))
theorem spec_l02Add_ok_fr0 (fr : Bool) (n : Nat) (a_ : SPhases) (b_ : SPhases) {r : SPhases} (h : m_spec_l02Add n a_ b_ = some r) : ACall prog fr 80 [.agg [.d (.cx .f32 a_.A.re a_.A.im), .d (.cx .f32 a_.B.re a_.B.im), .d (.cx .f32 a_.C.re a_.C.im)], .agg [.d (.cx .f32 b_.A.re b_.A.im), .d (.cx .f32 b_.B.re b_.B.im), .d (.cx .f32 b_.C.re b_.C.im)]] [] (fun v o new => v = .agg [.d (.cx .f32 r.A.re r.A.im), .d (.cx .f32 r.B.re r.B.im), .d (.cx .f32 r.C.re r.C.im)] ∧ o = [] ∧ new = []) := by
  refine acall_of_aw hτ func80 rfl (by simp) (by simp) ?_
  unfold m_spec_l02Add at h
  refine aw_seq ?_
  refine aw_region ?_
  refine awl_valH hτ rfl rfl rfl ?_
  refine awl_valH hτ rfl rfl rfl ?_
  refine awl_valH hτ rfl rfl rfl ?_
  refine awl_nil ?_
  refine aw_seq ?_
  refine aw_region ?_
  refine awl_val hτ rfl rfl rfl ?_
  refine awl_val hτ rfl rfl rfl ?_
  refine awl_val hτ rfl rfl rfl ?_
  refine awl_val hτ rfl rfl rfl ?_
  refine awl_val hτ rfl rfl rfl ?_
  refine awl_val hτ rfl rfl rfl ?_
  refine awl_val hτ rfl rfl rfl ?_
  refine awl_val hτ rfl rfl rfl ?_
  refine awl_val hτ rfl rfl rfl ?_
  refine awl_weak (weak_ofP [0, 1, 2] (l := [(2, .ptr 0 0), (3, .ptr 1 0), (4, .ptr 2 0), (9, .d (.cx .f32 (farith .add .f32 a_.A.re b_.A.re) (farith .add .f32 a_.A.im b_.A.im))), (11, .d (.cx .f32 a_.B.re a_.B.im)), (13, .d (.cx .f32 b_.B.re b_.B.im))]) (objs := [.box [.d (.cx .f32 a_.A.re a_.A.im), .d (.cx .f32 a_.B.re a_.B.im), .d (.cx .f32 a_.C.re a_.C.im)], .box [.d (.cx .f32 b_.A.re b_.A.im), .d (.cx .f32 b_.B.re b_.B.im), .d (.cx .f32 b_.C.re b_.C.im)], .box [.d (.cx .f32 (0 : Nat) (0 : Nat)), .d (.cx .f32 (0 : Nat) (0 : Nat)), .d (.cx .f32 (0 : Nat) (0 : Nat))]]) rfl (by simp) rfl (by repeat' first | exact trivial | refine ⟨?_, ?_⟩) ⟨rfl, trivial, rfl, trivial, rfl, trivial, rfl, trivial, rfl, trivial, rfl, trivial, trivial⟩) ?_
  refine awl_val hτ rfl rfl rfl ?_
  refine awl_val hτ rfl rfl rfl ?_
  refine awl_val hτ rfl rfl rfl ?_
  refine awl_val hτ rfl rfl rfl ?_
  refine awl_val hτ rfl rfl rfl ?_
  refine awl_val hτ rfl rfl rfl ?_
  refine awl_val hτ rfl rfl rfl ?_
  refine awl_valH hτ rfl rfl rfl ?_
  refine awl_nil ?_
  refine aw_weak (weak_ofP [2] (l := [(4, .ptr 0 0)]) (objs := [.box [.d (.cx .f32 (farith .add .f32 a_.A.re b_.A.re) (farith .add .f32 a_.A.im b_.A.im)), .d (.cx .f32 (farith .add .f32 a_.B.re b_.B.re) (farith .add .f32 a_.B.im b_.B.im)), .d (.cx .f32 (farith .add .f32 a_.C.re b_.C.re) (farith .add .f32 a_.C.im b_.C.im))]]) rfl (by simp) rfl (by repeat' first | exact trivial | refine ⟨?_, ?_⟩) ⟨rfl, trivial, trivial⟩) ?_
  refine aw_ret ?_
  have hr := Option.some.inj h
  subst hr
  exact ret_objs (.inr rfl) [] (objs' := []) (new := []) rfl (by simp) (by simp) rfl (by repeat' first | exact trivial | refine ⟨?_, ?_⟩) rfl rfl (by repeat' first | exact trivial | refine ⟨?_, ?_⟩) (fun _ => ⟨by simp [V.flat, V.flatA, V.flatC, D.flat], flat_nil⟩) ⟨rfl, rfl, rfl⟩
theorem spec_l02Add_ok (n : Nat) (a_ : SPhases) (b_ : SPhases) {r : SPhases} (h : m_spec_l02Add n a_ b_ = some r) : ACall prog false 80 [.agg [.d (.cx .f32 a_.A.re a_.A.im), .d (.cx .f32 a_.B.re a_.B.im), .d (.cx .f32 a_.C.re a_.C.im)], .agg [.d (.cx .f32 b_.A.re b_.A.im), .d (.cx .f32 b_.B.re b_.B.im), .d (.cx .f32 b_.C.re b_.C.im)]] [] (fun v o new => v = .agg [.d (.cx .f32 r.A.re r.A.im), .d (.cx .f32 r.B.re r.B.im), .d (.cx .f32 r.C.re r.C.im)] ∧ o = [] ∧ new = []) := spec_l02Add_ok_fr0 false n a_ b_ h
theorem spec_l02Add_ok_fr (n : Nat) (a_ : SPhases) (b_ : SPhases) {r : SPhases} (h : m_spec_l02Add n a_ b_ = some r) : ACall prog true 80 [.agg [.d (.cx .f32 a_.A.re a_.A.im), .d (.cx .f32 a_.B.re a_.B.im), .d (.cx .f32 a_.C.re a_.C.im)], .agg [.d (.cx .f32 b_.A.re b_.A.im), .d (.cx .f32 b_.B.re b_.B.im), .d (.cx .f32 b_.C.re b_.C.im)]] [] (fun v o new => v = .agg [.d (.cx .f32 r.A.re r.A.im), .d (.cx .f32 r.B.re r.B.im), .d (.cx .f32 r.C.re r.C.im)] ∧ o = [] ∧ new = []) := spec_l02Add_ok_fr0 true n a_ b_ h

def m_spec_AddPhases (n : Nat) (a_ : SPhases) (b_ : SPhases) : Option SPhases :=
  (m_spec_l02Add n a_ b_).bind fun x2 =>
  some x2
theorem spec_AddPhases_ok_fr0 (fr : Bool) (n : Nat) (a_ : SPhases) (b_ : SPhases) {r : SPhases} (h : m_spec_AddPhases n a_ b_ = some r) : ACall prog fr 38 [.agg [.d (.cx .f32 a_.A.re a_.A.im), .d (.cx .f32 a_.B.re a_.B.im), .d (.cx .f32 a_.C.re a_.C.im)], .agg [.d (.cx .f32 b_.A.re b_.A.im), .d (.cx .f32 b_.B.re b_.B.im), .d (.cx .f32 b_.C.re b_.C.im)]] [] (fun v o new => v = .agg [.d (.cx .f32 r.A.re r.A.im), .d (.cx .f32 r.B.re r.B.im), .d (.cx .f32 r.C.re r.C.im)] ∧ o = [] ∧ new = []) := by
  refine acall_of_aw hτ func38 rfl (by simp) (by simp) ?_
  unfold m_spec_AddPhases at h
  refine aw_seq ?_
  refine aw_region ?_
  refine awl_valH hτ rfl rfl rfl ?_
  refine awl_valH hτ rfl rfl rfl ?_
  refine awl_valH hτ rfl rfl rfl ?_
  refine awl_nil ?_
  refine aw_seq ?_
  refine aw_region ?_
  refine awl_val hτ rfl rfl rfl ?_
  refine awl_val hτ rfl rfl rfl ?_
  refine bnd_elim h fun x2 hx2 h => ?_
  refine awl_callP hτ false [] rfl rfl rfl (enterOk func80 rfl rfl) rfl rfl (by simp) ⟨(by repeat' first | exact trivial | refine ⟨?_, ?_⟩), (by repeat' first | exact trivial | refine ⟨?_, ?_⟩), trivial⟩ (by repeat' first | exact trivial | refine ⟨?_, ?_⟩) (spec_l02Add_ok n a_ b_ hx2) ?_
  rintro r0 o0 n0 ⟨rfl, rfl, rfl⟩ -
  refine awl_valH hτ rfl rfl rfl ?_
  refine awl_nil ?_
  refine aw_weak (weak_ofP [2] (l := [(4, .ptr 0 0)]) (objs := [.box [.d (.cx .f32 x2.A.re x2.A.im), .d (.cx .f32 x2.B.re x2.B.im), .d (.cx .f32 x2.C.re x2.C.im)]]) rfl (by simp) rfl (by repeat' first | exact trivial | refine ⟨?_, ?_⟩) ⟨rfl, trivial, trivial⟩) ?_
  refine aw_ret ?_
  have hr := Option.some.inj h
  subst hr
  exact ret_objs (.inr rfl) [] (objs' := []) (new := []) rfl (by simp) (by simp) rfl (by repeat' first | exact trivial | refine ⟨?_, ?_⟩) rfl rfl (by repeat' first | exact trivial | refine ⟨?_, ?_⟩) (fun _ => ⟨by simp [V.flat, V.flatA, V.flatC, D.flat], flat_nil⟩) ⟨rfl, rfl, rfl⟩
theorem spec_AddPhases_ok (n : Nat) (a_ : SPhases) (b_ : SPhases) {r : SPhases} (h : m_spec_AddPhases n a_ b_ = some r) : ACall prog false 38 [.agg [.d (.cx .f32 a_.A.re a_.A.im), .d (.cx .f32 a_.B.re a_.B.im), .d (.cx .f32 a_.C.re a_.C.im)], .agg [.d (.cx .f32 b_.A.re b_.A.im), .d (.cx .f32 b_.B.re b_.B.im), .d (.cx .f32 b_.C.re b_.C.im)]] [] (fun v o new => v = .agg [.d (.cx .f32 r.A.re r.A.im), .d (.cx .f32 r.B.re r.B.im), .d (.cx .f32 r.C.re r.C.im)] ∧ o = [] ∧ new = []) := spec_AddPhases_ok_fr0 false n a_ b_ h
theorem spec_AddPhases_ok_fr (n : Nat) (a_ : SPhases) (b_ : SPhases) {r : SPhases} (h : m_spec_AddPhases n a_ b_ = some r) : ACall prog true 38 [.agg [.d (.cx .f32 a_.A.re a_.A.im), .d (.cx .f32 a_.B.re a_.B.im), .d (.cx .f32 a_.C.re a_.C.im)], .agg [.d (.cx .f32 b_.A.re b_.A.im), .d (.cx .f32 b_.B.re b_.B.im), .d (.cx .f32 b_.C.re b_.C.im)]] [] (fun v o new => v = .agg [.d (.cx .f32 r.A.re r.A.im), .d (.cx .f32 r.B.re r.B.im), .d (.cx .f32 r.C.re r.C.im)] ∧ o = [] ∧ new = []) := spec_AddPhases_ok_fr0 true n a_ b_ h

def m_laws_FnSummed_j4 (n : Nat) (k121 : Int → Option Bool) (v99 : Int) : Option Bool :=
  k121 (w64 (v99 + (1 : Int)))
def m_laws_FnSummed_j6 (n : Nat) (k121 : Int → Option Bool) (v99 : Int) (v166 : Bool) : Option Bool :=
  if v166 = true then
    some false
  else
    m_laws_FnSummed_j4 n k121 v99
def m_laws_FnSummed_j5 (n : Nat) (x77 : List SPhases × Bool) (k121 : Int → Option Bool) (v99 : Int) (v159 : Cx) (v160 : Cx) (v161 : Cx) : Option Bool :=
  (getI x77.1 v99).bind fun x169 =>
  if (fcmp .eql .f32 v159.re x169.A.re && fcmp .eql .f32 v159.im x169.A.im) = true then
    if (fcmp .eql .f32 v160.re x169.B.re && fcmp .eql .f32 v160.im x169.B.im) = true then
      m_laws_FnSummed_j6 n k121 v99 (!(fcmp .eql .f32 v161.re x169.C.re && fcmp .eql .f32 v161.im x169.C.im))
    else
      m_laws_FnSummed_j6 n k121 v99 true
  else
    m_laws_FnSummed_j6 n k121 v99 true
def m_laws_FnSummed_l7 (n : Nat) (v76 : List SPhases) (x77 : List SPhases × Bool) (k121 : Int → Option Bool) (v99 : Int) (x143 : List Int × Bool) : Nat → Cx → Cx → Cx → Int → Option Bool
  | 0, _, _, _, _ => none
  | m187 + 1, v176, v177, v178, v179 =>
    if v179 < (x143.1.length : Int) then
      (getI x143.1 v179).bind fun x190 =>
      (getI v76 x190).bind fun x191 =>
      (m_spec_AddPhases n (SPhases.mk v176 v177 v178) x191).bind fun x192 =>
      (m_laws_FnSummed_l7 n v76 x77 k121 v99 x143 m187) x192.A x192.B x192.C (w64 (v179 + (1 : Int)))
    else
      m_laws_FnSummed_j5 n x77 k121 v99 v176 v177 v178
def m_laws_FnSummed_l3 (n : Nat) (x62 : SFeeder) (v76 : List SPhases) (x77 : List SPhases × Bool) : Nat → Int → Option Bool
  | 0, _ => none
  | m120 + 1, v99 =>
    if v99 < (x62.Buses.length : Int) then
      (m_impl_BusesBelow n (SFeeder.mk x62.Source x62.Buses) v99).bind fun x143 =>
      if x143.2 = true then
        m_laws_FnSummed_l7 n v76 x77 (m_laws_FnSummed_l3 n x62 v76 x77 m120) v99 x143 n (Cx.mk (0 : Nat) (0 : Nat)) (Cx.mk (0 : Nat) (0 : Nat)) (Cx.mk (0 : Nat) (0 : Nat)) (0 : Int)
      else
        some false
    else
      some true
def m_laws_FnSummed_j2 (n : Nat) (x62 : SFeeder) (v76 : List SPhases) (x77 : List SPhases × Bool) : Option Bool :=
  m_laws_FnSummed_l3 n x62 v76 x77 n (0 : Int)
def m_laws_FnSummed_j8 (n : Nat) (x62 : SFeeder) (v76 : List SPhases) (x77 : List SPhases × Bool) (v196 : Bool) : Option Bool :=
  if v196 = true then
    some false
  else
    m_laws_FnSummed_j2 n x62 v76 x77
def m_laws_FnSummed_j1 (n : Nat) (x62 : SFeeder) (v76 : List SPhases) : Option Bool :=
  (m_impl_SumBack n (SFeeder.mk x62.Source x62.Buses) v76).bind fun x77 =>
  if x77.2 = true then
    m_laws_FnSummed_j8 n x62 v76 x77 (!(decide ((x77.1.length : Int) = (x62.Buses.length : Int))))
  else
    m_laws_FnSummed_j8 n x62 v76 x77 true
def m_laws_FnSummed_l9 (n : Nat) (x62 : SFeeder) (x63 : List Cx) : Nat → List SPhases → Int → Option Bool
  | 0, _, _ => none
  | m213 + 1, v205, v206 =>
    if v206 < (x62.Buses.length : Int) then
      (getI x63 (w64 ((3 : Int) * v206))).bind fun x216 =>
      (getI x63 (w64 ((w64 ((3 : Int) * v206)) + (1 : Int)))).bind fun x217 =>
      (getI x63 (w64 ((w64 ((3 : Int) * v206)) + (2 : Int)))).bind fun x218 =>
      grd (room (v205.length + 1) 24) <|
      (m_laws_FnSummed_l9 n x62 x63 m213) (v205 ++ [(SPhases.mk x216 x217 x218)]) (w64 (v206 + (1 : Int)))
    else
      m_laws_FnSummed_j1 n x62 v205
def m_laws_FnSummed (n : Nat) (code_ : List Int) (more_ : List Int) : Option Bool :=
  (m_laws_b10Long n code_ more_).bind fun x60 =>
  if x60 = true then
    some true
  else
    (m_spec_B10Feeder n code_).bind fun x62 =>
    (m_spec_B10Whole n more_ (w64 ((3 : Int) * (x62.Buses.length : Int))) (50 : Int)).bind fun x63 =>
    m_laws_FnSummed_l9 n x62 x63 n ([] : List SPhases) (0 : Int)
theorem laws_FnSummed_ok_fr0 (fr : Bool) (n : Nat) (code_ : List Int) (more_ : List Int) {r : Bool} (h : m_laws_FnSummed n code_ more_ = some r) : ACall prog fr 6 [.d (.sl false (code_.map eIntu8)), .d (.sl false (more_.map eIntu8))] [] (fun v o new => v = .d (.bool r) ∧ o = [] ∧ new = []) := by
  refine acall_of_aw hτ func6 rfl (by simp) (by simp) ?_
  unfold m_laws_FnSummed at h
  refine aw_seq ?_
  refine aw_region ?_
  refine awl_val hτ rfl rfl rfl ?_
  refine awl_nil ?_
  refine aw_seq ?_
  refine aw_seq ?_
  refine aw_region ?_
  refine awl_val hτ rfl rfl rfl ?_
  refine awl_val hτ rfl rfl rfl ?_
  refine bnd_elim h fun x60 hx60 h => ?_
  refine awl_callP hτ false [] rfl rfl rfl (enterOk func8 rfl rfl) rfl rfl (by simp) ⟨trivial, trivial, trivial⟩ (by repeat' first | exact trivial | refine ⟨?_, ?_⟩) (laws_b10Long_ok n code_ more_ hx60) ?_
  rintro r0 o0 n0 ⟨rfl, rfl, rfl⟩ -
  refine awl_nil ?_
  refine aw_cond rfl (fun hc61 => ?_) (fun hc61 => ?_)
  · have h := if_bt h hc61
    refine aw_seq ?_
    refine aw_region ?_
    refine awl_val hτ rfl rfl rfl ?_
    refine awl_nil ?_
    refine aw_weak (weak_ofP [] (l := [(4, .d (.bool true))]) (objs := []) rfl (by simp) rfl (by repeat' first | exact trivial | refine ⟨?_, ?_⟩) ⟨rfl, trivial, trivial⟩) ?_
    refine aw_ret ?_
    have hr := Option.some.inj h
    subst hr
    exact ret_objs (.inr rfl) [] (objs' := []) (new := []) rfl (by simp) (by simp) rfl (by repeat' first | exact trivial | refine ⟨?_, ?_⟩) rfl rfl (by repeat' first | exact trivial | refine ⟨?_, ?_⟩) (fun _ => ⟨by simp [V.flat, V.flatA, V.flatC, D.flat], flat_nil⟩) ⟨rfl, rfl, rfl⟩
  · have h := if_bf h hc61
    refine aw_skip ?_
    refine aw_seq ?_
    refine aw_region ?_
    refine awl_val hτ rfl rfl rfl ?_
    refine bnd_elim h fun x62 hx62 h => ?_
    refine awl_callP hτ false [] rfl rfl rfl (enterOk func35 rfl rfl) rfl rfl (by simp) ⟨trivial, trivial⟩ (by repeat' first | exact trivial | refine ⟨?_, ?_⟩) (spec_B10Feeder_ok n code_ hx62) ?_
    rintro r0 o0 n0 ⟨rfl, rfl, rfl⟩ -
    refine awl_valH hτ rfl rfl rfl ?_
    refine awl_valH hτ rfl rfl rfl ?_
    refine awl_nil ?_
    refine aw_seq ?_
    refine aw_weak (weak_ofP [1, 0] (l := [(1, .d (.sl false (more_.map eIntu8))), (5, .ptr 0 0)]) (objs := [.box [.d (.cx .f32 x62.Source.A.re x62.Source.A.im), .d (.cx .f32 x62.Source.B.re x62.Source.B.im), .d (.cx .f32 x62.Source.C.re x62.Source.C.im), .row 1 x62.Buses.length 0 x62.Buses.length], .row 8 (x62.Buses.map eSBus)]) rfl (by simp) rfl (by repeat' first | exact trivial | refine ⟨?_, ?_⟩) ⟨rfl, trivial, rfl, trivial, trivial⟩) ?_
    refine aw_region ?_
    refine awl_val hτ rfl rfl rfl ?_
    refine awl_val hτ rfl rfl rfl ?_
    refine awl_need hτ rfl rfl rfl (len_map _) ?_
    refine awl_val hτ rfl rfl rfl ?_
    refine awl_nil ?_
    refine aw_seq ?_
    refine aw_region ?_
    refine awl_val hτ rfl rfl rfl ?_
    refine awl_val hτ rfl rfl rfl ?_
    refine awl_val hτ rfl rfl rfl ?_
    refine bnd_elim h fun x63 hx63 h => ?_
    refine awl_callP hτ false [] rfl rfl rfl (enterOk func16 rfl rfl) rfl rfl (by simp) ⟨trivial, trivial, trivial, trivial⟩ (by repeat' first | exact trivial | refine ⟨?_, ?_⟩) (spec_B10Whole_ok n more_ (w64 ((3 : Int) * (x62.Buses.length : Int))) (50 : Int) hx63) ?_
    rintro r0 o0 n0 ⟨rfl, rfl, rfl⟩ -
    refine awl_val hτ rfl rfl rfl ?_
    refine awl_nil ?_
    refine aw_seq ?_
    refine aw_weak (weak_ofP [0, 1, 2] (l := [(5, .ptr 0 0), (6, .d (.int .i64 (x62.Buses.length : Int))), (7, .row 2 x63.length 0 x63.length)]) (objs := [.box [.d (.cx .f32 x62.Source.A.re x62.Source.A.im), .d (.cx .f32 x62.Source.B.re x62.Source.B.im), .d (.cx .f32 x62.Source.C.re x62.Source.C.im), .row 1 x62.Buses.length 0 x62.Buses.length], .row 8 (x62.Buses.map eSBus), .row 1 (x63.map eCxf32)]) rfl (by simp) rfl (by repeat' first | exact trivial | refine ⟨?_, ?_⟩) ⟨rfl, trivial, rfl, trivial, rfl, trivial, trivial⟩) ?_
    refine aw_region ?_
    refine awl_valH hτ rfl rfl rfl ?_
    refine awl_val hτ rfl rfl rfl ?_
    refine awl_nil ?_
    refine aw_hk1 (ι := List SPhases) (fun v76 => St.of [(5, .ptr 0 0), (6, .d (.int .i64 (x62.Buses.length : Int))), (8, .row 2 v76.length 0 v76.length)] [.box [.d (.cx .f32 x62.Source.A.re x62.Source.A.im), .d (.cx .f32 x62.Source.B.re x62.Source.B.im), .d (.cx .f32 x62.Source.C.re x62.Source.C.im), .row 1 x62.Buses.length 0 x62.Buses.length], .row 8 (x62.Buses.map eSBus), .row 3 (v76.map eSPhases)] f6.ntmps 0) (fun v76 => m_laws_FnSummed_j1 n x62 v76 = some r) ?_ (fun hk200 => ?_)
    · rintro v76 h
      replace h : m_laws_FnSummed_j1 n x62 v76 = some r := h
      unfold m_laws_FnSummed_j1 at h
      refine aw_seq ?_
      refine aw_region ?_
      refine awl_val hτ rfl rfl rfl ?_
      refine awl_val hτ rfl rfl rfl ?_
      refine awl_weak (weak_ofP [0, 1, 2] (l := [(5, .ptr 0 0), (6, .d (.int .i64 (x62.Buses.length : Int))), (8, .row 2 v76.length 0 v76.length), (57, .agg [.d (.cx .f32 x62.Source.A.re x62.Source.A.im), .d (.cx .f32 x62.Source.B.re x62.Source.B.im), .d (.cx .f32 x62.Source.C.re x62.Source.C.im), .row 1 x62.Buses.length 0 x62.Buses.length]), (58, .row 2 v76.length 0 v76.length)]) (objs := [.box [.d (.cx .f32 x62.Source.A.re x62.Source.A.im), .d (.cx .f32 x62.Source.B.re x62.Source.B.im), .d (.cx .f32 x62.Source.C.re x62.Source.C.im), .row 1 x62.Buses.length 0 x62.Buses.length], .row 8 (x62.Buses.map eSBus), .row 3 (v76.map eSPhases)]) rfl (by simp) rfl (by repeat' first | exact trivial | refine ⟨?_, ?_⟩) ⟨rfl, trivial, rfl, trivial, rfl, trivial, rfl, (by repeat' first | exact trivial | refine ⟨?_, ?_⟩), rfl, trivial, trivial⟩) ?_
      refine bnd_elim h fun x77 hx77 h => ?_
      refine awl_callP hτ true [] rfl rfl rfl (enterOk func36 rfl rfl) (mapO_cons (exV_agg (mapO_cons rfl (mapO_cons rfl (mapO_cons rfl (mapO_cons (exC_view (f := eSBus) x62.Buses rfl rfl rfl) mapO_nil))))) (mapO_cons (exV_view (f := eSPhases) v76 rfl rfl rfl) mapO_nil)) rfl (by simp) ⟨⟨trivial, trivial, trivial, (exP_view (f := eSBus) x62.Buses rfl rfl rfl)⟩, (exVP_view (f := eSPhases) v76 rfl rfl rfl), trivial⟩ (by repeat' first | exact trivial | refine ⟨?_, ?_⟩) (impl_SumBack_ok_fr n (SFeeder.mk x62.Source x62.Buses) v76 hx77) ?_
      rintro r0 o0 n0 ⟨rfl, rfl, rfl⟩ -
      refine awl_val hτ rfl rfl rfl ?_
      refine awl_val hτ rfl rfl rfl ?_
      refine awl_val hτ rfl rfl rfl ?_
      refine awl_val hτ rfl rfl rfl ?_
      refine awl_val hτ rfl rfl rfl ?_
      refine awl_nil ?_
      refine aw_hk1 (ι := Unit) (fun _ => St.of [(5, .ptr 0 0), (6, .d (.int .i64 (x62.Buses.length : Int))), (8, .row 2 v76.length 0 v76.length), (10, .row 3 x77.1.length 0 x77.1.length)] [.box [.d (.cx .f32 x62.Source.A.re x62.Source.A.im), .d (.cx .f32 x62.Source.B.re x62.Source.B.im), .d (.cx .f32 x62.Source.C.re x62.Source.C.im), .row 1 x62.Buses.length 0 x62.Buses.length], .row 8 (x62.Buses.map eSBus), .row 3 (v76.map eSPhases), .row 3 (x77.1.map eSPhases)] f6.ntmps 0) (fun _ => m_laws_FnSummed_j2 n x62 v76 x77 = some r) ?_ (fun hk193 => ?_)
      · rintro ⟨⟩ h
        replace h : m_laws_FnSummed_j2 n x62 v76 x77 = some r := h
        unfold m_laws_FnSummed_j2 at h
        refine aw_seq ?_
        refine aw_seq ?_
        refine aw_region ?_
        refine awl_val hτ rfl rfl rfl ?_
        refine awl_nil ?_
        refine aw_block ?_
        refine aw_loop (ι := Nat × Int) (fun (m120, v99) => St.of [(5, .ptr 0 0), (6, .d (.int .i64 (x62.Buses.length : Int))), (8, .row 2 v76.length 0 v76.length), (10, .row 3 x77.1.length 0 x77.1.length), (12, .d (.int .i64 v99))] [.box [.d (.cx .f32 x62.Source.A.re x62.Source.A.im), .d (.cx .f32 x62.Source.B.re x62.Source.B.im), .d (.cx .f32 x62.Source.C.re x62.Source.C.im), .row 1 x62.Buses.length 0 x62.Buses.length], .row 8 (x62.Buses.map eSBus), .row 3 (v76.map eSPhases), .row 3 (x77.1.map eSPhases)] f6.ntmps 0) (fun (m120, v99) => m_laws_FnSummed_l3 n x62 v76 x77 m120 v99 = some r) (fun x => x.1) (n, (0 : Int)) h (weak_ofP [0, 1, 2, 3] (l := [(5, .ptr 0 0), (6, .d (.int .i64 (x62.Buses.length : Int))), (8, .row 2 v76.length 0 v76.length), (10, .row 3 x77.1.length 0 x77.1.length), (12, .d (.int .i64 (0 : Int)))]) (objs := [.box [.d (.cx .f32 x62.Source.A.re x62.Source.A.im), .d (.cx .f32 x62.Source.B.re x62.Source.B.im), .d (.cx .f32 x62.Source.C.re x62.Source.C.im), .row 1 x62.Buses.length 0 x62.Buses.length], .row 8 (x62.Buses.map eSBus), .row 3 (v76.map eSPhases), .row 3 (x77.1.map eSPhases)]) rfl (by simp) rfl (by repeat' first | exact trivial | refine ⟨?_, ?_⟩) ⟨rfl, trivial, rfl, trivial, rfl, trivial, rfl, trivial, rfl, trivial, trivial⟩) ?_
        rintro ⟨m120, v99⟩ h
        replace h : m_laws_FnSummed_l3 n x62 v76 x77 m120 v99 = some r := h
        rcases m120 with _ | m120
        · rw [m_laws_FnSummed_l3] at h; cases h
        rw [m_laws_FnSummed_l3] at h
        refine aw_seq ?_
        refine aw_seq ?_
        refine aw_region ?_
        refine awl_val hτ rfl rfl rfl ?_
        refine awl_val hτ rfl rfl rfl ?_
        refine awl_val hτ rfl rfl rfl ?_
        refine awl_nil ?_
        refine aw_cond rfl (fun hc122 => ?_) (fun hc122 => ?_)
        · have h := if_t h hc122
          refine aw_skip ?_
          refine aw_hk1 (ι := Unit) (fun _ => St.of [(5, .ptr 0 0), (6, .d (.int .i64 (x62.Buses.length : Int))), (8, .row 2 v76.length 0 v76.length), (10, .row 3 x77.1.length 0 x77.1.length), (12, .d (.int .i64 v99))] [.box [.d (.cx .f32 x62.Source.A.re x62.Source.A.im), .d (.cx .f32 x62.Source.B.re x62.Source.B.im), .d (.cx .f32 x62.Source.C.re x62.Source.C.im), .row 1 x62.Buses.length 0 x62.Buses.length], .row 8 (x62.Buses.map eSBus), .row 3 (v76.map eSPhases), .row 3 (x77.1.map eSPhases)] f6.ntmps 0) (fun _ => m_laws_FnSummed_j4 n (m_laws_FnSummed_l3 n x62 v76 x77 m120) v99 = some r) ?_ (fun hk142 => ?_)
          · rintro ⟨⟩ h
            replace h : m_laws_FnSummed_j4 n (m_laws_FnSummed_l3 n x62 v76 x77 m120) v99 = some r := h
            unfold m_laws_FnSummed_j4 at h
            refine aw_region ?_
            refine awl_val hτ rfl rfl rfl ?_
            refine awl_val hτ rfl rfl rfl ?_
            refine awl_val hτ rfl rfl rfl ?_
            refine awl_nil ?_
            exact ⟨(m120, (w64 (v99 + (1 : Int)))), h, Nat.lt_succ_self m120, (weak_ofP [0, 1, 2, 3] (l := [(5, .ptr 0 0), (6, .d (.int .i64 (x62.Buses.length : Int))), (8, .row 2 v76.length 0 v76.length), (10, .row 3 x77.1.length 0 x77.1.length), (12, .d (.int .i64 (w64 (v99 + (1 : Int)))))]) (objs := [.box [.d (.cx .f32 x62.Source.A.re x62.Source.A.im), .d (.cx .f32 x62.Source.B.re x62.Source.B.im), .d (.cx .f32 x62.Source.C.re x62.Source.C.im), .row 1 x62.Buses.length 0 x62.Buses.length], .row 8 (x62.Buses.map eSBus), .row 3 (v76.map eSPhases), .row 3 (x77.1.map eSPhases)]) rfl (by simp) rfl (by repeat' first | exact trivial | refine ⟨?_, ?_⟩) ⟨rfl, trivial, rfl, trivial, rfl, trivial, rfl, trivial, rfl, trivial, trivial⟩)⟩
          · refine aw_seq ?_
            refine aw_block ?_
            refine aw_seq ?_
            refine aw_region ?_
            refine awl_val hτ rfl rfl rfl ?_
            refine awl_val hτ rfl rfl rfl ?_
            refine awl_weak (weak_ofP [0, 1, 2, 3] (l := [(5, .ptr 0 0), (6, .d (.int .i64 (x62.Buses.length : Int))), (8, .row 2 v76.length 0 v76.length), (10, .row 3 x77.1.length 0 x77.1.length), (12, .d (.int .i64 v99)), (76, .agg [.d (.cx .f32 x62.Source.A.re x62.Source.A.im), .d (.cx .f32 x62.Source.B.re x62.Source.B.im), .d (.cx .f32 x62.Source.C.re x62.Source.C.im), .row 1 x62.Buses.length 0 x62.Buses.length]), (77, .d (.int .i64 v99))]) (objs := [.box [.d (.cx .f32 x62.Source.A.re x62.Source.A.im), .d (.cx .f32 x62.Source.B.re x62.Source.B.im), .d (.cx .f32 x62.Source.C.re x62.Source.C.im), .row 1 x62.Buses.length 0 x62.Buses.length], .row 8 (x62.Buses.map eSBus), .row 3 (v76.map eSPhases), .row 3 (x77.1.map eSPhases)]) rfl (by simp) rfl (by repeat' first | exact trivial | refine ⟨?_, ?_⟩) ⟨rfl, trivial, rfl, trivial, rfl, trivial, rfl, trivial, rfl, trivial, rfl, (by repeat' first | exact trivial | refine ⟨?_, ?_⟩), rfl, trivial, trivial⟩) ?_
            refine bnd_elim h fun x143 hx143 h => ?_
            refine awl_callP hτ true [] rfl rfl rfl (enterOk func37 rfl rfl) (mapO_cons (exV_agg (mapO_cons rfl (mapO_cons rfl (mapO_cons rfl (mapO_cons (exC_view (f := eSBus) x62.Buses rfl rfl rfl) mapO_nil))))) (mapO_cons rfl mapO_nil)) rfl (by simp) ⟨⟨trivial, trivial, trivial, (exP_view (f := eSBus) x62.Buses rfl rfl rfl)⟩, trivial, trivial⟩ (by repeat' first | exact trivial | refine ⟨?_, ?_⟩) (impl_BusesBelow_ok_fr n (SFeeder.mk x62.Source x62.Buses) v99 hx143) ?_
            rintro r0 o0 n0 ⟨rfl, rfl, rfl⟩ -
            refine awl_val hτ rfl rfl rfl ?_
            refine awl_val hτ rfl rfl rfl ?_
            refine awl_val hτ rfl rfl rfl ?_
            refine awl_val hτ rfl rfl rfl ?_
            refine awl_val hτ rfl rfl rfl ?_
            refine awl_nil ?_
            refine aw_seq ?_
            refine aw_seq ?_
            refine aw_weak (weak_ofP [0, 1, 2, 3, 4] (l := [(5, .ptr 0 0), (6, .d (.int .i64 (x62.Buses.length : Int))), (8, .row 2 v76.length 0 v76.length), (10, .row 3 x77.1.length 0 x77.1.length), (12, .d (.int .i64 v99)), (13, .row 4 x143.1.length 0 x143.1.length), (14, .d (.bool x143.2))]) (objs := [.box [.d (.cx .f32 x62.Source.A.re x62.Source.A.im), .d (.cx .f32 x62.Source.B.re x62.Source.B.im), .d (.cx .f32 x62.Source.C.re x62.Source.C.im), .row 1 x62.Buses.length 0 x62.Buses.length], .row 8 (x62.Buses.map eSBus), .row 3 (v76.map eSPhases), .row 3 (x77.1.map eSPhases), .row 1 (x143.1.map eInti64)]) rfl (by simp) rfl (by repeat' first | exact trivial | refine ⟨?_, ?_⟩) ⟨rfl, trivial, rfl, trivial, rfl, trivial, rfl, trivial, rfl, trivial, rfl, trivial, rfl, trivial, trivial⟩) ?_
            refine aw_region ?_
            refine awl_val hτ rfl rfl rfl ?_
            refine awl_val hτ rfl rfl rfl ?_
            refine awl_nil ?_
            refine aw_cond rfl (fun hc144 => ?_) (fun hc144 => ?_)
            · have hc144 := not_t hc144
              have h := if_bf h hc144
              refine aw_seq ?_
              refine aw_region ?_
              refine awl_val hτ rfl rfl rfl ?_
              refine awl_nil ?_
              refine aw_weak (weak_ofP [] (l := [(4, .d (.bool false))]) (objs := []) rfl (by simp) rfl (by repeat' first | exact trivial | refine ⟨?_, ?_⟩) ⟨rfl, trivial, trivial⟩) ?_
              refine aw_ret ?_
              have hr := Option.some.inj h
              subst hr
              exact ret_objs (.inr rfl) [] (objs' := []) (new := []) rfl (by simp) (by simp) rfl (by repeat' first | exact trivial | refine ⟨?_, ?_⟩) rfl rfl (by repeat' first | exact trivial | refine ⟨?_, ?_⟩) (fun _ => ⟨by simp [V.flat, V.flatA, V.flatC, D.flat], flat_nil⟩) ⟨rfl, rfl, rfl⟩
            · have hc144 := not_f hc144
              have h := if_bt h hc144
              refine aw_skip ?_
              refine aw_seq ?_
              refine aw_region ?_
              refine awl_val hτ rfl rfl rfl ?_
              refine awl_valH hτ rfl rfl rfl ?_
              refine awl_valH hτ rfl rfl rfl ?_
              refine awl_nil ?_
              refine aw_hk1 (ι := Cx × Cx × Cx) (fun (v159, v160, v161) => St.of [(5, .ptr 0 0), (6, .d (.int .i64 (x62.Buses.length : Int))), (8, .row 2 v76.length 0 v76.length), (10, .row 3 x77.1.length 0 x77.1.length), (12, .d (.int .i64 v99)), (15, .ptr 4 0)] [.box [.d (.cx .f32 x62.Source.A.re x62.Source.A.im), .d (.cx .f32 x62.Source.B.re x62.Source.B.im), .d (.cx .f32 x62.Source.C.re x62.Source.C.im), .row 1 x62.Buses.length 0 x62.Buses.length], .row 8 (x62.Buses.map eSBus), .row 3 (v76.map eSPhases), .row 3 (x77.1.map eSPhases), .box [.d (.cx .f32 v159.re v159.im), .d (.cx .f32 v160.re v160.im), .d (.cx .f32 v161.re v161.im)]] f6.ntmps 0) (fun (v159, v160, v161) => m_laws_FnSummed_j5 n x77 (m_laws_FnSummed_l3 n x62 v76 x77 m120) v99 v159 v160 v161 = some r) ?_ (fun hk172 => ?_)
              · rintro ⟨v159, v160, v161⟩ h
                replace h : m_laws_FnSummed_j5 n x77 (m_laws_FnSummed_l3 n x62 v76 x77 m120) v99 v159 v160 v161 = some r := h
                unfold m_laws_FnSummed_j5 at h
                refine aw_hk1 (ι := Bool) (fun v166 => St.of [(5, .ptr 0 0), (6, .d (.int .i64 (x62.Buses.length : Int))), (8, .row 2 v76.length 0 v76.length), (10, .row 3 x77.1.length 0 x77.1.length), (12, .d (.int .i64 v99)), (126, .d (.bool v166))] [.box [.d (.cx .f32 x62.Source.A.re x62.Source.A.im), .d (.cx .f32 x62.Source.B.re x62.Source.B.im), .d (.cx .f32 x62.Source.C.re x62.Source.C.im), .row 1 x62.Buses.length 0 x62.Buses.length], .row 8 (x62.Buses.map eSBus), .row 3 (v76.map eSPhases), .row 3 (x77.1.map eSPhases)] f6.ntmps 0) (fun v166 => m_laws_FnSummed_j6 n (m_laws_FnSummed_l3 n x62 v76 x77 m120) v99 v166 = some r) ?_ (fun hk168 => ?_)
                · rintro v166 h
                  replace h : m_laws_FnSummed_j6 n (m_laws_FnSummed_l3 n x62 v76 x77 m120) v99 v166 = some r := h
                  unfold m_laws_FnSummed_j6 at h
                  refine aw_cond rfl (fun hc167 => ?_) (fun hc167 => ?_)
                  · have h := if_bt h hc167
                    refine aw_seq ?_
                    refine aw_region ?_
                    refine awl_val hτ rfl rfl rfl ?_
                    refine awl_nil ?_
                    refine aw_weak (weak_ofP [] (l := [(4, .d (.bool false))]) (objs := []) rfl (by simp) rfl (by repeat' first | exact trivial | refine ⟨?_, ?_⟩) ⟨rfl, trivial, trivial⟩) ?_
                    refine aw_ret ?_
                    have hr := Option.some.inj h
                    subst hr
                    exact ret_objs (.inr rfl) [] (objs' := []) (new := []) rfl (by simp) (by simp) rfl (by repeat' first | exact trivial | refine ⟨?_, ?_⟩) rfl rfl (by repeat' first | exact trivial | refine ⟨?_, ?_⟩) (fun _ => ⟨by simp [V.flat, V.flatA, V.flatC, D.flat], flat_nil⟩) ⟨rfl, rfl, rfl⟩
                  · have h := if_bf h hc167
                    refine aw_skip ?_
                    refine aw_weak (weak_ofP [0, 1, 2, 3] (l := [(5, .ptr 0 0), (6, .d (.int .i64 (x62.Buses.length : Int))), (8, .row 2 v76.length 0 v76.length), (10, .row 3 x77.1.length 0 x77.1.length), (12, .d (.int .i64 v99))]) (objs := [.box [.d (.cx .f32 x62.Source.A.re x62.Source.A.im), .d (.cx .f32 x62.Source.B.re x62.Source.B.im), .d (.cx .f32 x62.Source.C.re x62.Source.C.im), .row 1 x62.Buses.length 0 x62.Buses.length], .row 8 (x62.Buses.map eSBus), .row 3 (v76.map eSPhases), .row 3 (x77.1.map eSPhases)]) rfl (by simp) rfl (by repeat' first | exact trivial | refine ⟨?_, ?_⟩) ⟨rfl, trivial, rfl, trivial, rfl, trivial, rfl, trivial, rfl, trivial, trivial⟩) ?_
                    exact hk142 () h
                · refine aw_seq ?_
                  refine any_start ?_
                  refine any_val hτ [4] 0 rfl rfl rfl rfl rfl ?_
                  refine any_val hτ [4] 1 rfl rfl rfl rfl rfl ?_
                  refine any_val hτ [] 2 rfl rfl rfl rfl rfl ?_
                  refine any_val hτ [] 3 rfl rfl rfl rfl rfl ?_
                  refine bnd_elim h fun x169 hx169 h => ?_
                  refine any_need hτ [3] 4 rfl rfl rfl rfl rfl (row_need hx169) ?_
                  refine any_need hτ [3] 5 rfl rfl rfl rfl rfl (len_map _) ?_
                  refine any_elem hτ [3] 6 rfl rfl rfl rfl rfl (len_map _) (row_get hx169) rfl ?_
                  refine any_val hτ [] 7 rfl rfl rfl rfl rfl ?_
                  refine any_val hτ [] 8 rfl rfl rfl rfl rfl ?_
                  refine any_split 107 rfl (fun hb170 => ?_) (fun hb170 => ?_)
                  · have hb170 := not_t hb170
                    have h := if_bf h hb170
                    refine any_skip 9 rfl rfl rfl ?_
                    refine any_skip 10 rfl rfl rfl ?_
                    refine any_skip 11 rfl rfl rfl ?_
                    refine any_skip 12 rfl rfl rfl ?_
                    refine any_skip 13 rfl rfl rfl ?_
                    refine any_skip 14 rfl rfl rfl ?_
                    refine any_skip 15 rfl rfl rfl ?_
                    refine any_skip 16 rfl rfl rfl ?_
                    refine any_val hτ [] 17 rfl rfl rfl rfl rfl ?_
                    refine any_val hτ [] 18 rfl rfl rfl rfl rfl ?_
                    refine any_skip 19 rfl rfl rfl ?_
                    refine any_skip 20 rfl rfl rfl ?_
                    refine any_skip 21 rfl rfl rfl ?_
                    refine any_skip 22 rfl rfl rfl ?_
                    refine any_skip 23 rfl rfl rfl ?_
                    refine any_skip 24 rfl rfl rfl ?_
                    refine any_skip 25 rfl rfl rfl ?_
                    refine any_skip 26 rfl rfl rfl ?_
                    refine any_val hτ [] 27 rfl rfl rfl rfl rfl ?_
                    refine any_done mixed (by kernel_rfl) ?_
                    refine aw_weak (weak_ofP [0, 1, 2, 3] (l := [(5, .ptr 0 0), (6, .d (.int .i64 (x62.Buses.length : Int))), (8, .row 2 v76.length 0 v76.length), (10, .row 3 x77.1.length 0 x77.1.length), (12, .d (.int .i64 v99)), (126, .d (.bool true))]) (objs := [.box [.d (.cx .f32 x62.Source.A.re x62.Source.A.im), .d (.cx .f32 x62.Source.B.re x62.Source.B.im), .d (.cx .f32 x62.Source.C.re x62.Source.C.im), .row 1 x62.Buses.length 0 x62.Buses.length], .row 8 (x62.Buses.map eSBus), .row 3 (v76.map eSPhases), .row 3 (x77.1.map eSPhases)]) rfl (by simp) rfl (by repeat' first | exact trivial | refine ⟨?_, ?_⟩) ⟨rfl, trivial, rfl, trivial, rfl, trivial, rfl, trivial, rfl, trivial, rfl, trivial, trivial⟩) ?_
                    exact hk168 true h
                  · have hb170 := not_f hb170
                    have h := if_bt h hb170
                    refine any_val hτ [4] 9 rfl rfl rfl rfl rfl ?_
                    refine any_val hτ [4] 10 rfl rfl rfl rfl rfl ?_
                    refine any_val hτ [] 11 rfl rfl rfl rfl rfl ?_
                    refine any_val hτ [] 12 rfl rfl rfl rfl rfl ?_
                    refine any_need hτ [3] 13 rfl rfl rfl rfl rfl (row_need hx169) ?_
                    refine any_need hτ [3] 14 rfl rfl rfl rfl rfl (len_map _) ?_
                    refine any_elem hτ [3] 15 rfl rfl rfl rfl rfl (len_map _) (row_get hx169) rfl ?_
                    refine any_val hτ [] 16 rfl rfl rfl rfl rfl ?_
                    refine any_val hτ [] 17 rfl rfl rfl rfl rfl ?_
                    refine any_val hτ [] 18 rfl rfl rfl rfl rfl ?_
                    refine any_split 117 rfl (fun hb171 => ?_) (fun hb171 => ?_)
                    · have hb171 := not_t hb171
                      have h := if_bf h hb171
                      refine any_skip 19 rfl rfl rfl ?_
                      refine any_skip 20 rfl rfl rfl ?_
                      refine any_skip 21 rfl rfl rfl ?_
                      refine any_skip 22 rfl rfl rfl ?_
                      refine any_skip 23 rfl rfl rfl ?_
                      refine any_skip 24 rfl rfl rfl ?_
                      refine any_skip 25 rfl rfl rfl ?_
                      refine any_skip 26 rfl rfl rfl ?_
                      refine any_val hτ [] 27 rfl rfl rfl rfl rfl ?_
                      refine any_done mixed (by kernel_rfl) ?_
                      refine aw_weak (weak_ofP [0, 1, 2, 3] (l := [(5, .ptr 0 0), (6, .d (.int .i64 (x62.Buses.length : Int))), (8, .row 2 v76.length 0 v76.length), (10, .row 3 x77.1.length 0 x77.1.length), (12, .d (.int .i64 v99)), (126, .d (.bool true))]) (objs := [.box [.d (.cx .f32 x62.Source.A.re x62.Source.A.im), .d (.cx .f32 x62.Source.B.re x62.Source.B.im), .d (.cx .f32 x62.Source.C.re x62.Source.C.im), .row 1 x62.Buses.length 0 x62.Buses.length], .row 8 (x62.Buses.map eSBus), .row 3 (v76.map eSPhases), .row 3 (x77.1.map eSPhases)]) rfl (by simp) rfl (by repeat' first | exact trivial | refine ⟨?_, ?_⟩) ⟨rfl, trivial, rfl, trivial, rfl, trivial, rfl, trivial, rfl, trivial, rfl, trivial, trivial⟩) ?_
                      exact hk168 true h
                    · have hb171 := not_f hb171
                      have h := if_bt h hb171
                      refine any_val hτ [4] 19 rfl rfl rfl rfl rfl ?_
                      refine any_val hτ [4] 20 rfl rfl rfl rfl rfl ?_
                      refine any_val hτ [] 21 rfl rfl rfl rfl rfl ?_
                      refine any_val hτ [] 22 rfl rfl rfl rfl rfl ?_
                      refine any_need hτ [3] 23 rfl rfl rfl rfl rfl (row_need hx169) ?_
                      refine any_need hτ [3] 24 rfl rfl rfl rfl rfl (len_map _) ?_
                      refine any_elem hτ [3] 25 rfl rfl rfl rfl rfl (len_map _) (row_get hx169) rfl ?_
                      refine any_val hτ [] 26 rfl rfl rfl rfl rfl ?_
                      refine any_val hτ [] 27 rfl rfl rfl rfl rfl ?_
                      refine any_done mixed (by kernel_rfl) ?_
                      refine aw_weak (weak_ofP [0, 1, 2, 3] (l := [(5, .ptr 0 0), (6, .d (.int .i64 (x62.Buses.length : Int))), (8, .row 2 v76.length 0 v76.length), (10, .row 3 x77.1.length 0 x77.1.length), (12, .d (.int .i64 v99)), (126, .d (.bool (!(fcmp .eql .f32 v161.re x169.C.re && fcmp .eql .f32 v161.im x169.C.im))))]) (objs := [.box [.d (.cx .f32 x62.Source.A.re x62.Source.A.im), .d (.cx .f32 x62.Source.B.re x62.Source.B.im), .d (.cx .f32 x62.Source.C.re x62.Source.C.im), .row 1 x62.Buses.length 0 x62.Buses.length], .row 8 (x62.Buses.map eSBus), .row 3 (v76.map eSPhases), .row 3 (x77.1.map eSPhases)]) rfl (by simp) rfl (by repeat' first | exact trivial | refine ⟨?_, ?_⟩) ⟨rfl, trivial, rfl, trivial, rfl, trivial, rfl, trivial, rfl, trivial, rfl, trivial, trivial⟩) ?_
                      exact hk168 (!(fcmp .eql .f32 v161.re x169.C.re && fcmp .eql .f32 v161.im x169.C.im)) h
              · refine aw_seq ?_
                refine aw_seq ?_
                refine aw_region ?_
                refine awl_val hτ rfl rfl rfl ?_
                refine awl_need hτ rfl rfl rfl (len_map _) ?_
                refine awl_val hτ rfl rfl rfl ?_
                refine awl_nil ?_
                refine aw_block ?_
                refine aw_loop (ι := Nat × Cx × Cx × Cx × Int) (fun (m187, v176, v177, v178, v179) => St.of [(5, .ptr 0 0), (6, .d (.int .i64 (x62.Buses.length : Int))), (8, .row 2 v76.length 0 v76.length), (10, .row 3 x77.1.length 0 x77.1.length), (12, .d (.int .i64 v99)), (13, .row 4 x143.1.length 0 x143.1.length), (15, .ptr 5 0), (85, .d (.int .i64 (x143.1.length : Int))), (86, .d (.int .i64 v179))] [.box [.d (.cx .f32 x62.Source.A.re x62.Source.A.im), .d (.cx .f32 x62.Source.B.re x62.Source.B.im), .d (.cx .f32 x62.Source.C.re x62.Source.C.im), .row 1 x62.Buses.length 0 x62.Buses.length], .row 8 (x62.Buses.map eSBus), .row 3 (v76.map eSPhases), .row 3 (x77.1.map eSPhases), .row 1 (x143.1.map eInti64), .box [.d (.cx .f32 v176.re v176.im), .d (.cx .f32 v177.re v177.im), .d (.cx .f32 v178.re v178.im)]] f6.ntmps 0) (fun (m187, v176, v177, v178, v179) => m_laws_FnSummed_l7 n v76 x77 (m_laws_FnSummed_l3 n x62 v76 x77 m120) v99 x143 m187 v176 v177 v178 v179 = some r) (fun x => x.1) (n, (Cx.mk (0 : Nat) (0 : Nat)), (Cx.mk (0 : Nat) (0 : Nat)), (Cx.mk (0 : Nat) (0 : Nat)), (0 : Int)) h (weak_ofP [0, 1, 2, 3, 4, 5] (l := [(5, .ptr 0 0), (6, .d (.int .i64 (x62.Buses.length : Int))), (8, .row 2 v76.length 0 v76.length), (10, .row 3 x77.1.length 0 x77.1.length), (12, .d (.int .i64 v99)), (13, .row 4 x143.1.length 0 x143.1.length), (15, .ptr 5 0), (85, .d (.int .i64 (x143.1.length : Int))), (86, .d (.int .i64 (0 : Int)))]) (objs := [.box [.d (.cx .f32 x62.Source.A.re x62.Source.A.im), .d (.cx .f32 x62.Source.B.re x62.Source.B.im), .d (.cx .f32 x62.Source.C.re x62.Source.C.im), .row 1 x62.Buses.length 0 x62.Buses.length], .row 8 (x62.Buses.map eSBus), .row 3 (v76.map eSPhases), .row 3 (x77.1.map eSPhases), .row 1 (x143.1.map eInti64), .box [.d (.cx .f32 (0 : Nat) (0 : Nat)), .d (.cx .f32 (0 : Nat) (0 : Nat)), .d (.cx .f32 (0 : Nat) (0 : Nat))]]) rfl (by simp) rfl (by repeat' first | exact trivial | refine ⟨?_, ?_⟩) ⟨rfl, trivial, rfl, trivial, rfl, trivial, rfl, trivial, rfl, trivial, rfl, trivial, rfl, trivial, rfl, trivial, rfl, trivial, trivial⟩) ?_
                rintro ⟨m187, v176, v177, v178, v179⟩ h
                replace h : m_laws_FnSummed_l7 n v76 x77 (m_laws_FnSummed_l3 n x62 v76 x77 m120) v99 x143 m187 v176 v177 v178 v179 = some r := h
                rcases m187 with _ | m187
                · rw [m_laws_FnSummed_l7] at h; cases h
                rw [m_laws_FnSummed_l7] at h
                refine aw_seq ?_
                refine aw_region ?_
                refine awl_val hτ rfl rfl rfl ?_
                refine awl_nil ?_
                refine aw_seq ?_
                refine aw_cond rfl (fun hc189 => ?_) (fun hc189 => ?_)
                · have h := if_t h hc189
                  refine aw_skip ?_
                  refine aw_seq ?_
                  refine aw_block ?_
                  refine aw_seq ?_
                  refine aw_region ?_
                  refine awl_val hτ rfl rfl rfl ?_
                  refine awl_val hτ rfl rfl rfl ?_
                  refine awl_nil ?_
                  refine any_start ?_
                  refine any_val hτ [5] 0 rfl rfl rfl rfl rfl ?_
                  refine any_val hτ [] 1 rfl rfl rfl rfl rfl ?_
                  refine any_val hτ [] 2 rfl rfl rfl rfl rfl ?_
                  refine any_val hτ [] 3 rfl rfl rfl rfl rfl ?_
                  refine bnd_elim h fun x190 hx190 h => ?_
                  refine any_need hτ [4] 4 rfl rfl rfl rfl rfl (row_need hx190) ?_
                  refine any_elem hτ [4] 5 rfl rfl rfl rfl rfl (len_map _) (row_get hx190) rfl ?_
                  refine bnd_elim h fun x191 hx191 h => ?_
                  refine any_need hτ [2] 6 rfl rfl rfl rfl rfl (row_need hx191) ?_
                  refine any_elem hτ [2] 7 rfl rfl rfl rfl rfl (len_map _) (row_get hx191) rfl ?_
                  refine bnd_elim h fun x192 hx192 h => ?_
                  refine any_callP hτ false [] [0, 1, 2, 3, 4, 5] 8 rfl rfl rfl rfl (enterOk func38 rfl rfl) rfl rfl (by simp) ⟨(by repeat' first | exact trivial | refine ⟨?_, ?_⟩), (by repeat' first | exact trivial | refine ⟨?_, ?_⟩), trivial⟩ (by repeat' first | exact trivial | refine ⟨?_, ?_⟩) (spec_AddPhases_ok n (SPhases.mk v176 v177 v178) x191 hx192) ⟨rfl, rfl, rfl, rfl, rfl, rfl, trivial⟩ ?_
                  refine any_valHP hτ [0, 1, 2, 3, 4] 9 rfl rfl rfl rfl ⟨rfl, rfl, rfl, rfl, rfl, trivial⟩ ?_
                  refine any_done mixed (by kernel_rfl) ?_
                  refine aw_weak (weak_ofP [0, 1, 2, 3, 4, 5] (l := [(5, .ptr 0 0), (6, .d (.int .i64 (x62.Buses.length : Int))), (8, .row 2 v76.length 0 v76.length), (10, .row 3 x77.1.length 0 x77.1.length), (12, .d (.int .i64 v99)), (13, .row 4 x143.1.length 0 x143.1.length), (15, .ptr 5 0), (85, .d (.int .i64 (x143.1.length : Int))), (86, .d (.int .i64 v179))]) (objs := [.box [.d (.cx .f32 x62.Source.A.re x62.Source.A.im), .d (.cx .f32 x62.Source.B.re x62.Source.B.im), .d (.cx .f32 x62.Source.C.re x62.Source.C.im), .row 1 x62.Buses.length 0 x62.Buses.length], .row 8 (x62.Buses.map eSBus), .row 3 (v76.map eSPhases), .row 3 (x77.1.map eSPhases), .row 1 (x143.1.map eInti64), .box [.d (.cx .f32 x192.A.re x192.A.im), .d (.cx .f32 x192.B.re x192.B.im), .d (.cx .f32 x192.C.re x192.C.im)]]) rfl (by simp) rfl (by repeat' first | exact trivial | refine ⟨?_, ?_⟩) ⟨rfl, trivial, rfl, trivial, rfl, trivial, rfl, trivial, rfl, trivial, rfl, trivial, rfl, trivial, rfl, trivial, rfl, trivial, trivial⟩) ?_
                  refine aw_region ?_
                  refine awl_val hτ rfl rfl rfl ?_
                  refine awl_val hτ rfl rfl rfl ?_
                  refine awl_nil ?_
                  exact ⟨(m187, x192.A, x192.B, x192.C, (w64 (v179 + (1 : Int)))), h, Nat.lt_succ_self m187, (weak_ofP [0, 1, 2, 3, 4, 5] (l := [(5, .ptr 0 0), (6, .d (.int .i64 (x62.Buses.length : Int))), (8, .row 2 v76.length 0 v76.length), (10, .row 3 x77.1.length 0 x77.1.length), (12, .d (.int .i64 v99)), (13, .row 4 x143.1.length 0 x143.1.length), (15, .ptr 5 0), (85, .d (.int .i64 (x143.1.length : Int))), (86, .d (.int .i64 (w64 (v179 + (1 : Int)))))]) (objs := [.box [.d (.cx .f32 x62.Source.A.re x62.Source.A.im), .d (.cx .f32 x62.Source.B.re x62.Source.B.im), .d (.cx .f32 x62.Source.C.re x62.Source.C.im), .row 1 x62.Buses.length 0 x62.Buses.length], .row 8 (x62.Buses.map eSBus), .row 3 (v76.map eSPhases), .row 3 (x77.1.map eSPhases), .row 1 (x143.1.map eInti64), .box [.d (.cx .f32 x192.A.re x192.A.im), .d (.cx .f32 x192.B.re x192.B.im), .d (.cx .f32 x192.C.re x192.C.im)]]) rfl (by simp) rfl (by repeat' first | exact trivial | refine ⟨?_, ?_⟩) ⟨rfl, trivial, rfl, trivial, rfl, trivial, rfl, trivial, rfl, trivial, rfl, trivial, rfl, trivial, rfl, trivial, rfl, trivial, trivial⟩)⟩
                · have h := if_f h hc189
                  refine aw_exit ?_
                  refine aw_weak (weak_ofP [0, 1, 2, 3, 5] (l := [(5, .ptr 0 0), (6, .d (.int .i64 (x62.Buses.length : Int))), (8, .row 2 v76.length 0 v76.length), (10, .row 3 x77.1.length 0 x77.1.length), (12, .d (.int .i64 v99)), (15, .ptr 4 0)]) (objs := [.box [.d (.cx .f32 x62.Source.A.re x62.Source.A.im), .d (.cx .f32 x62.Source.B.re x62.Source.B.im), .d (.cx .f32 x62.Source.C.re x62.Source.C.im), .row 1 x62.Buses.length 0 x62.Buses.length], .row 8 (x62.Buses.map eSBus), .row 3 (v76.map eSPhases), .row 3 (x77.1.map eSPhases), .box [.d (.cx .f32 v176.re v176.im), .d (.cx .f32 v177.re v177.im), .d (.cx .f32 v178.re v178.im)]]) rfl (by simp) rfl (by repeat' first | exact trivial | refine ⟨?_, ?_⟩) ⟨rfl, trivial, rfl, trivial, rfl, trivial, rfl, trivial, rfl, trivial, rfl, trivial, trivial⟩) ?_
                  exact hk172 (v176, v177, v178) h
        · have h := if_f h hc122
          refine aw_exit ?_
          refine aw_seq ?_
          refine aw_region ?_
          refine awl_val hτ rfl rfl rfl ?_
          refine awl_nil ?_
          refine aw_weak (weak_ofP [] (l := [(4, .d (.bool true))]) (objs := []) rfl (by simp) rfl (by repeat' first | exact trivial | refine ⟨?_, ?_⟩) ⟨rfl, trivial, trivial⟩) ?_
          refine aw_ret ?_
          have hr := Option.some.inj h
          subst hr
          exact ret_objs (.inr rfl) [] (objs' := []) (new := []) rfl (by simp) (by simp) rfl (by repeat' first | exact trivial | refine ⟨?_, ?_⟩) rfl rfl (by repeat' first | exact trivial | refine ⟨?_, ?_⟩) (fun _ => ⟨by simp [V.flat, V.flatA, V.flatC, D.flat], flat_nil⟩) ⟨rfl, rfl, rfl⟩
      · refine aw_seq ?_
        refine aw_hk1 (ι := Bool) (fun v196 => St.of [(5, .ptr 0 0), (6, .d (.int .i64 (x62.Buses.length : Int))), (8, .row 2 v76.length 0 v76.length), (10, .row 3 x77.1.length 0 x77.1.length), (69, .d (.bool v196))] [.box [.d (.cx .f32 x62.Source.A.re x62.Source.A.im), .d (.cx .f32 x62.Source.B.re x62.Source.B.im), .d (.cx .f32 x62.Source.C.re x62.Source.C.im), .row 1 x62.Buses.length 0 x62.Buses.length], .row 8 (x62.Buses.map eSBus), .row 3 (v76.map eSPhases), .row 3 (x77.1.map eSPhases)] f6.ntmps 0) (fun v196 => m_laws_FnSummed_j8 n x62 v76 x77 v196 = some r) ?_ (fun hk198 => ?_)
        · rintro v196 h
          replace h : m_laws_FnSummed_j8 n x62 v76 x77 v196 = some r := h
          unfold m_laws_FnSummed_j8 at h
          refine aw_cond rfl (fun hc197 => ?_) (fun hc197 => ?_)
          · have h := if_bt h hc197
            refine aw_seq ?_
            refine aw_region ?_
            refine awl_val hτ rfl rfl rfl ?_
            refine awl_nil ?_
            refine aw_weak (weak_ofP [] (l := [(4, .d (.bool false))]) (objs := []) rfl (by simp) rfl (by repeat' first | exact trivial | refine ⟨?_, ?_⟩) ⟨rfl, trivial, trivial⟩) ?_
            refine aw_ret ?_
            have hr := Option.some.inj h
            subst hr
            exact ret_objs (.inr rfl) [] (objs' := []) (new := []) rfl (by simp) (by simp) rfl (by repeat' first | exact trivial | refine ⟨?_, ?_⟩) rfl rfl (by repeat' first | exact trivial | refine ⟨?_, ?_⟩) (fun _ => ⟨by simp [V.flat, V.flatA, V.flatC, D.flat], flat_nil⟩) ⟨rfl, rfl, rfl⟩
          · have h := if_bf h hc197
            refine aw_skip ?_
            refine aw_weak (weak_ofP [0, 1, 2, 3] (l := [(5, .ptr 0 0), (6, .d (.int .i64 (x62.Buses.length : Int))), (8, .row 2 v76.length 0 v76.length), (10, .row 3 x77.1.length 0 x77.1.length)]) (objs := [.box [.d (.cx .f32 x62.Source.A.re x62.Source.A.im), .d (.cx .f32 x62.Source.B.re x62.Source.B.im), .d (.cx .f32 x62.Source.C.re x62.Source.C.im), .row 1 x62.Buses.length 0 x62.Buses.length], .row 8 (x62.Buses.map eSBus), .row 3 (v76.map eSPhases), .row 3 (x77.1.map eSPhases)]) rfl (by simp) rfl (by repeat' first | exact trivial | refine ⟨?_, ?_⟩) ⟨rfl, trivial, rfl, trivial, rfl, trivial, rfl, trivial, trivial⟩) ?_
            exact hk193 () h
        · refine aw_seq ?_
          refine aw_weak (weak_ofP [0, 1, 2, 3] (l := [(5, .ptr 0 0), (6, .d (.int .i64 (x62.Buses.length : Int))), (8, .row 2 v76.length 0 v76.length), (10, .row 3 x77.1.length 0 x77.1.length), (11, .d (.bool x77.2))]) (objs := [.box [.d (.cx .f32 x62.Source.A.re x62.Source.A.im), .d (.cx .f32 x62.Source.B.re x62.Source.B.im), .d (.cx .f32 x62.Source.C.re x62.Source.C.im), .row 1 x62.Buses.length 0 x62.Buses.length], .row 8 (x62.Buses.map eSBus), .row 3 (v76.map eSPhases), .row 3 (x77.1.map eSPhases)]) rfl (by simp) rfl (by repeat' first | exact trivial | refine ⟨?_, ?_⟩) ⟨rfl, trivial, rfl, trivial, rfl, trivial, rfl, trivial, rfl, trivial, trivial⟩) ?_
          refine aw_region ?_
          refine awl_val hτ rfl rfl rfl ?_
          refine awl_val hτ rfl rfl rfl ?_
          refine awl_val hτ rfl rfl rfl ?_
          refine awl_split 64 rfl (fun hb199 => ?_) (fun hb199 => ?_)
          · have hb199 := not_t hb199
            have h := if_bf h hb199
            refine awl_skip rfl rfl ?_
            refine awl_skip rfl rfl ?_
            refine awl_skip rfl rfl ?_
            refine awl_skip rfl rfl ?_
            refine awl_val hτ rfl rfl rfl ?_
            refine awl_nil ?_
            refine aw_weak (weak_ofP [0, 1, 2, 3] (l := [(5, .ptr 0 0), (6, .d (.int .i64 (x62.Buses.length : Int))), (8, .row 2 v76.length 0 v76.length), (10, .row 3 x77.1.length 0 x77.1.length), (69, .d (.bool true))]) (objs := [.box [.d (.cx .f32 x62.Source.A.re x62.Source.A.im), .d (.cx .f32 x62.Source.B.re x62.Source.B.im), .d (.cx .f32 x62.Source.C.re x62.Source.C.im), .row 1 x62.Buses.length 0 x62.Buses.length], .row 8 (x62.Buses.map eSBus), .row 3 (v76.map eSPhases), .row 3 (x77.1.map eSPhases)]) rfl (by simp) rfl (by repeat' first | exact trivial | refine ⟨?_, ?_⟩) ⟨rfl, trivial, rfl, trivial, rfl, trivial, rfl, trivial, rfl, trivial, trivial⟩) ?_
            exact hk198 true h
          · have hb199 := not_f hb199
            have h := if_bt h hb199
            refine awl_val hτ rfl rfl rfl ?_
            refine awl_need hτ rfl rfl rfl (len_map _) ?_
            refine awl_val hτ rfl rfl rfl ?_
            refine awl_val hτ (v := .d (.bool (!(decide ((x77.1.length : Int) = (x62.Buses.length : Int)))))) rfl rfl (or_ine _ _) ?_
            refine awl_val hτ rfl rfl rfl ?_
            refine awl_nil ?_
            refine aw_weak (weak_ofP [0, 1, 2, 3] (l := [(5, .ptr 0 0), (6, .d (.int .i64 (x62.Buses.length : Int))), (8, .row 2 v76.length 0 v76.length), (10, .row 3 x77.1.length 0 x77.1.length), (69, .d (.bool (!(decide ((x77.1.length : Int) = (x62.Buses.length : Int))))))]) (objs := [.box [.d (.cx .f32 x62.Source.A.re x62.Source.A.im), .d (.cx .f32 x62.Source.B.re x62.Source.B.im), .d (.cx .f32 x62.Source.C.re x62.Source.C.im), .row 1 x62.Buses.length 0 x62.Buses.length], .row 8 (x62.Buses.map eSBus), .row 3 (v76.map eSPhases), .row 3 (x77.1.map eSPhases)]) rfl (by simp) rfl (by repeat' first | exact trivial | refine ⟨?_, ?_⟩) ⟨rfl, trivial, rfl, trivial, rfl, trivial, rfl, trivial, rfl, trivial, trivial⟩) ?_
            exact hk198 (!(decide ((x77.1.length : Int) = (x62.Buses.length : Int)))) h
    · refine aw_seq ?_
      refine aw_seq ?_
      refine aw_region ?_
      refine awl_val hτ rfl rfl rfl ?_
      refine awl_nil ?_
      refine aw_block ?_
      refine aw_loop (ι := Nat × List SPhases × Int) (fun (m213, v205, v206) => St.of [(5, .ptr 0 0), (6, .d (.int .i64 (x62.Buses.length : Int))), (7, .row 2 x63.length 0 x63.length), (8, .row 3 v205.length 0 v205.length), (9, .d (.int .i64 v206))] [.box [.d (.cx .f32 x62.Source.A.re x62.Source.A.im), .d (.cx .f32 x62.Source.B.re x62.Source.B.im), .d (.cx .f32 x62.Source.C.re x62.Source.C.im), .row 1 x62.Buses.length 0 x62.Buses.length], .row 8 (x62.Buses.map eSBus), .row 1 (x63.map eCxf32), .row 3 (v205.map eSPhases)] f6.ntmps 0) (fun (m213, v205, v206) => m_laws_FnSummed_l9 n x62 x63 m213 v205 v206 = some r) (fun x => x.1) (n, ([] : List SPhases), (0 : Int)) h (weak_ofP [0, 1, 2, 3] (l := [(5, .ptr 0 0), (6, .d (.int .i64 (x62.Buses.length : Int))), (7, .row 2 x63.length 0 x63.length), (8, .row 3 (([] : List SPhases).length) 0 (([] : List SPhases).length)), (9, .d (.int .i64 (0 : Int)))]) (objs := [.box [.d (.cx .f32 x62.Source.A.re x62.Source.A.im), .d (.cx .f32 x62.Source.B.re x62.Source.B.im), .d (.cx .f32 x62.Source.C.re x62.Source.C.im), .row 1 x62.Buses.length 0 x62.Buses.length], .row 8 (x62.Buses.map eSBus), .row 1 (x63.map eCxf32), .row 3 (([] : List SPhases).map eSPhases)]) rfl (by simp) rfl (by repeat' first | exact trivial | refine ⟨?_, ?_⟩) ⟨rfl, trivial, rfl, trivial, rfl, trivial, rfl, trivial, rfl, trivial, trivial⟩) ?_
      rintro ⟨m213, v205, v206⟩ h
      replace h : m_laws_FnSummed_l9 n x62 x63 m213 v205 v206 = some r := h
      rcases m213 with _ | m213
      · rw [m_laws_FnSummed_l9] at h; cases h
      rw [m_laws_FnSummed_l9] at h
      refine aw_seq ?_
      refine aw_seq ?_
      refine aw_region ?_
      refine awl_val hτ rfl rfl rfl ?_
      refine awl_val hτ rfl rfl rfl ?_
      refine awl_val hτ rfl rfl rfl ?_
      refine awl_nil ?_
      refine aw_cond rfl (fun hc215 => ?_) (fun hc215 => ?_)
      · have h := if_t h hc215
        refine aw_skip ?_
        refine aw_seq ?_
        refine aw_block ?_
        refine any_start ?_
        refine any_val hτ [] 0 rfl rfl rfl rfl rfl ?_
        refine any_val hτ [] 1 rfl rfl rfl rfl rfl ?_
        refine any_val hτ [] 2 rfl rfl rfl rfl rfl ?_
        refine any_val hτ [] 3 rfl rfl rfl rfl rfl ?_
        refine bnd_elim h fun x216 hx216 h => ?_
        refine any_need hτ [2] 4 rfl rfl rfl rfl rfl (row_need hx216) ?_
        refine any_elem hτ [2] 5 rfl rfl rfl rfl rfl (len_map _) (row_get hx216) rfl ?_
        refine any_val hτ [] 6 rfl rfl rfl rfl rfl ?_
        refine any_val hτ [] 7 rfl rfl rfl rfl rfl ?_
        refine any_val hτ [] 8 rfl rfl rfl rfl rfl ?_
        refine any_val hτ [] 9 rfl rfl rfl rfl rfl ?_
        refine bnd_elim h fun x217 hx217 h => ?_
        refine any_need hτ [2] 10 rfl rfl rfl rfl rfl (row_need hx217) ?_
        refine any_elem hτ [2] 11 rfl rfl rfl rfl rfl (len_map _) (row_get hx217) rfl ?_
        refine any_val hτ [] 12 rfl rfl rfl rfl rfl ?_
        refine any_val hτ [] 13 rfl rfl rfl rfl rfl ?_
        refine any_val hτ [] 14 rfl rfl rfl rfl rfl ?_
        refine any_val hτ [] 15 rfl rfl rfl rfl rfl ?_
        refine bnd_elim h fun x218 hx218 h => ?_
        refine any_need hτ [2] 16 rfl rfl rfl rfl rfl (row_need hx218) ?_
        refine any_elem hτ [2] 17 rfl rfl rfl rfl rfl (len_map _) (row_get hx218) rfl ?_
        refine any_val hτ [] 18 rfl rfl rfl rfl rfl ?_
        refine any_valHP hτ [0, 1, 2, 3] 19 rfl rfl rfl rfl ⟨rfl, rfl, rfl, rfl, trivial⟩ ?_
        refine grd_elim h fun hg219 h => ?_
        refine any_needHP hτ [0, 1, 2, 4] 20 rfl rfl rfl (Eq.trans rfl (or_append (f := eSPhases) v205 [(SPhases.mk x216 x217 x218)] rfl)) ⟨⟨rfl, Nat.le_of_ble_eq_true rfl⟩, len_map _, rfl, rfl, hg219, by decide, (all1 rfl)⟩ ⟨rfl, rfl, rfl, rfl, trivial⟩ ?_
        refine any_val hτ [] 21 rfl rfl rfl rfl rfl ?_
        refine any_done mixed (by kernel_rfl) ?_
        refine aw_weak (weak_ofP [0, 1, 2, 3] (l := [(5, .ptr 0 0), (6, .d (.int .i64 (x62.Buses.length : Int))), (7, .row 2 x63.length 0 x63.length), (8, .row 3 ((v205 ++ [(SPhases.mk x216 x217 x218)]).length) 0 ((v205 ++ [(SPhases.mk x216 x217 x218)]).length)), (9, .d (.int .i64 v206))]) (objs := [.box [.d (.cx .f32 x62.Source.A.re x62.Source.A.im), .d (.cx .f32 x62.Source.B.re x62.Source.B.im), .d (.cx .f32 x62.Source.C.re x62.Source.C.im), .row 1 x62.Buses.length 0 x62.Buses.length], .row 8 (x62.Buses.map eSBus), .row 1 (x63.map eCxf32), .row 3 ((v205 ++ [(SPhases.mk x216 x217 x218)]).map eSPhases)]) rfl (by simp) rfl (by repeat' first | exact trivial | refine ⟨?_, ?_⟩) ⟨rfl, trivial, rfl, trivial, rfl, trivial, rfl, trivial, rfl, trivial, trivial⟩) ?_
        refine aw_region ?_
        refine awl_val hτ rfl rfl rfl ?_
        refine awl_val hτ rfl rfl rfl ?_
        refine awl_val hτ rfl rfl rfl ?_
        refine awl_nil ?_
        exact ⟨(m213, (v205 ++ [(SPhases.mk x216 x217 x218)]), (w64 (v206 + (1 : Int)))), h, Nat.lt_succ_self m213, (weak_ofP [0, 1, 2, 3] (l := [(5, .ptr 0 0), (6, .d (.int .i64 (x62.Buses.length : Int))), (7, .row 2 x63.length 0 x63.length), (8, .row 3 ((v205 ++ [(SPhases.mk x216 x217 x218)]).length) 0 ((v205 ++ [(SPhases.mk x216 x217 x218)]).length)), (9, .d (.int .i64 (w64 (v206 + (1 : Int)))))]) (objs := [.box [.d (.cx .f32 x62.Source.A.re x62.Source.A.im), .d (.cx .f32 x62.Source.B.re x62.Source.B.im), .d (.cx .f32 x62.Source.C.re x62.Source.C.im), .row 1 x62.Buses.length 0 x62.Buses.length], .row 8 (x62.Buses.map eSBus), .row 1 (x63.map eCxf32), .row 3 ((v205 ++ [(SPhases.mk x216 x217 x218)]).map eSPhases)]) rfl (by simp) rfl (by repeat' first | exact trivial | refine ⟨?_, ?_⟩) ⟨rfl, trivial, rfl, trivial, rfl, trivial, rfl, trivial, rfl, trivial, trivial⟩)⟩
      · have h := if_f h hc215
        refine aw_exit ?_
        refine aw_weak (weak_ofP [0, 1, 3] (l := [(5, .ptr 0 0), (6, .d (.int .i64 (x62.Buses.length : Int))), (8, .row 2 v205.length 0 v205.length)]) (objs := [.box [.d (.cx .f32 x62.Source.A.re x62.Source.A.im), .d (.cx .f32 x62.Source.B.re x62.Source.B.im), .d (.cx .f32 x62.Source.C.re x62.Source.C.im), .row 1 x62.Buses.length 0 x62.Buses.length], .row 8 (x62.Buses.map eSBus), .row 3 (v205.map eSPhases)]) rfl (by simp) rfl (by repeat' first | exact trivial | refine ⟨?_, ?_⟩) ⟨rfl, trivial, rfl, trivial, rfl, trivial, trivial⟩) ?_
        exact hk200 v205 h
theorem laws_FnSummed_ok (n : Nat) (code_ : List Int) (more_ : List Int) {r : Bool} (h : m_laws_FnSummed n code_ more_ = some r) : ACall prog false 6 [.d (.sl false (code_.map eIntu8)), .d (.sl false (more_.map eIntu8))] [] (fun v o new => v = .d (.bool r) ∧ o = [] ∧ new = []) := laws_FnSummed_ok_fr0 false n code_ more_ h
theorem laws_FnSummed_ok_fr (n : Nat) (code_ : List Int) (more_ : List Int) {r : Bool} (h : m_laws_FnSummed n code_ more_ = some r) : ACall prog true 6 [.d (.sl false (code_.map eIntu8)), .d (.sl false (more_.map eIntu8))] [] (fun v o new => v = .d (.bool r) ∧ o = [] ∧ new = []) := laws_FnSummed_ok_fr0 true n code_ more_ h

end Go.Proofs.Ytolggocnbakokaa.AWN
