/- Models and contracts, printed by program. -/
import Derived.Test.YtkagbffdmppbhaaDoorLitB
set_option linter.unusedVariables false
set_option linter.unusedSimpArgs false
set_option linter.unusedSectionVars false
set_option maxHeartbeats 2000000
namespace Go.Proofs.YtkagbffdmppbhaaDoor.AWN
open Go Go.Proofs.Tryd

def m_impl_Grid_behind_l1 (n : Nat) (g_ : SGrid) (bus_ : Int) (closed_ : List Int) (x20 : Int) : Nat → List Int → Int → Option (List Int)
  | 0, _, _ => none
  | m39 + 1, v28, v29 =>
    if v29 < (closed_.length : Int) then
      (m_slices_Clone n closed_).bind fun x42 =>
      (m_slices_Delete n x42 v29 (w64 (v29 + (1 : Int)))).bind fun x43 =>
      grd (x43.length = x42.length) <|
      (m_impl_Grid_hung n g_ bus_ (((x43).drop 0).take (x42.length - ((w64 (v29 + (1 : Int))).toNat - v29.toNat))) (0 : Int)).bind fun x45 =>
      (m_impl_listed n (ibits .andNot .u64 x20 x45)).bind fun x46 =>
      (m_impl_Feeder_customers_2 n g_ x46).bind fun x47 =>
      grd (room (v28.length + 1) 8) <|
      (m_impl_Grid_behind_l1 n g_ bus_ closed_ x20 m39) (v28 ++ [x47]) (w64 (v29 + (1 : Int)))
    else
      some v28
def m_impl_Grid_behind (n : Nat) (g_ : SGrid) (bus_ : Int) (closed_ : List Int) : Option (List Int) :=
  (m_impl_Grid_hung n g_ bus_ closed_ (0 : Int)).bind fun x20 =>
  m_impl_Grid_behind_l1 n g_ bus_ closed_ x20 n ([] : List Int) (0 : Int)
theorem impl_Grid_behind_ok (n : Nat) (g_ : SGrid) (bus_ : Int) (closed_ : List Int) {r : List Int} (h : m_impl_Grid_behind n g_ bus_ closed_ = some r) : ACall prog false 42 [.ptr 0 0, .d (.int .i64 bus_), .d (.sl false (closed_.map eInti64))] [.box [.d (.cx .f32 g_.Feeder.Source.A.re g_.Feeder.Source.A.im), .d (.cx .f32 g_.Feeder.Source.B.re g_.Feeder.Source.B.im), .d (.cx .f32 g_.Feeder.Source.C.re g_.Feeder.Source.C.im), .d (.sl false (g_.Feeder.Buses.map eSBus)), .d (.sl false (g_.Ties.map eSTie))]] (fun v o new => v = .row 1 r.length 0 r.length ∧ o = [.box [.d (.cx .f32 g_.Feeder.Source.A.re g_.Feeder.Source.A.im), .d (.cx .f32 g_.Feeder.Source.B.re g_.Feeder.Source.B.im), .d (.cx .f32 g_.Feeder.Source.C.re g_.Feeder.Source.C.im), .d (.sl false (g_.Feeder.Buses.map eSBus)), .d (.sl false (g_.Ties.map eSTie))]] ∧ new = [.row 1 (r.map eInti64)]) := by
  refine acall_of_aw hτ func42 rfl (by simp) (by simp) ?_
  unfold m_impl_Grid_behind at h
  refine aw_seq ?_
  refine aw_region ?_
  refine awl_val hτ rfl rfl rfl ?_
  refine awl_nil ?_
  refine aw_seq ?_
  refine aw_region ?_
  refine awl_valH hτ rfl rfl rfl ?_
  refine awl_val hτ rfl rfl rfl ?_
  refine awl_val hτ rfl rfl rfl ?_
  refine awl_val hτ rfl rfl rfl ?_
  refine bnd_elim h fun x20 hx20 h => ?_
  refine awl_callP hτ false [0] rfl rfl rfl (enterOk func40 rfl rfl) rfl rfl (by simp) ⟨trivial, trivial, trivial, trivial, trivial⟩ (by repeat' first | exact trivial | refine ⟨?_, ?_⟩) (impl_Grid_hung_ok n g_ bus_ closed_ (0 : Int) hx20) ?_
  rintro r0 o0 n0 ⟨rfl, rfl, rfl⟩ -
  refine awl_val hτ rfl rfl rfl ?_
  refine awl_val hτ rfl rfl rfl ?_
  refine awl_nil ?_
  refine aw_seq ?_
  refine aw_seq ?_
  refine aw_weak (weak_ofP [0, 1] (l := [(0, .ptr 0 0), (1, .d (.int .i64 bus_)), (2, .d (.sl false (closed_.map eInti64))), (7, .row 1 (([] : List Int).length) 0 (([] : List Int).length)), (8, .d (.int .u64 x20))]) (objs := [.box [.d (.cx .f32 g_.Feeder.Source.A.re g_.Feeder.Source.A.im), .d (.cx .f32 g_.Feeder.Source.B.re g_.Feeder.Source.B.im), .d (.cx .f32 g_.Feeder.Source.C.re g_.Feeder.Source.C.im), .d (.sl false (g_.Feeder.Buses.map eSBus)), .d (.sl false (g_.Ties.map eSTie))], .row 1 (([] : List Int).map eInti64)]) rfl (by simp) rfl (by repeat' first | exact trivial | refine ⟨?_, ?_⟩) ⟨rfl, trivial, rfl, trivial, rfl, trivial, rfl, trivial, rfl, trivial, trivial⟩) ?_
  refine aw_region ?_
  refine awl_val hτ rfl rfl rfl ?_
  refine awl_val hτ (v := .d (.int .i64 (closed_.length : Int))) rfl rfl (Eq.trans rfl (or_len (f := eInti64) closed_)) ?_
  refine awl_val hτ rfl rfl rfl ?_
  refine awl_nil ?_
  refine aw_block ?_
  refine aw_loop (ι := Nat × List Int × Int) (fun (m39, v28, v29) => St.of [(0, .ptr 0 0), (1, .d (.int .i64 bus_)), (2, .d (.sl false (closed_.map eInti64))), (7, .row 1 v28.length 0 v28.length), (8, .d (.int .u64 x20)), (17, .d (.int .i64 (closed_.length : Int))), (18, .d (.int .i64 v29))] [.box [.d (.cx .f32 g_.Feeder.Source.A.re g_.Feeder.Source.A.im), .d (.cx .f32 g_.Feeder.Source.B.re g_.Feeder.Source.B.im), .d (.cx .f32 g_.Feeder.Source.C.re g_.Feeder.Source.C.im), .d (.sl false (g_.Feeder.Buses.map eSBus)), .d (.sl false (g_.Ties.map eSTie))], .row 1 (v28.map eInti64)] f42.ntmps 1) (fun (m39, v28, v29) => m_impl_Grid_behind_l1 n g_ bus_ closed_ x20 m39 v28 v29 = some r) (fun x => x.1) (n, ([] : List Int), (0 : Int)) h (weak_ofP [0, 1] (l := [(0, .ptr 0 0), (1, .d (.int .i64 bus_)), (2, .d (.sl false (closed_.map eInti64))), (7, .row 1 (([] : List Int).length) 0 (([] : List Int).length)), (8, .d (.int .u64 x20)), (17, .d (.int .i64 (closed_.length : Int))), (18, .d (.int .i64 (0 : Int)))]) (objs := [.box [.d (.cx .f32 g_.Feeder.Source.A.re g_.Feeder.Source.A.im), .d (.cx .f32 g_.Feeder.Source.B.re g_.Feeder.Source.B.im), .d (.cx .f32 g_.Feeder.Source.C.re g_.Feeder.Source.C.im), .d (.sl false (g_.Feeder.Buses.map eSBus)), .d (.sl false (g_.Ties.map eSTie))], .row 1 (([] : List Int).map eInti64)]) rfl (by simp) rfl (by repeat' first | exact trivial | refine ⟨?_, ?_⟩) ⟨rfl, trivial, rfl, trivial, rfl, trivial, rfl, trivial, rfl, trivial, rfl, trivial, rfl, trivial, trivial⟩) ?_
  rintro ⟨m39, v28, v29⟩ h
  replace h : m_impl_Grid_behind_l1 n g_ bus_ closed_ x20 m39 v28 v29 = some r := h
  rcases m39 with _ | m39
  · rw [m_impl_Grid_behind_l1] at h; cases h
  rw [m_impl_Grid_behind_l1] at h
  refine aw_seq ?_
  refine aw_region ?_
  refine awl_val hτ rfl rfl rfl ?_
  refine awl_nil ?_
  refine aw_seq ?_
  refine aw_cond rfl (fun hc41 => ?_) (fun hc41 => ?_)
  · have h := if_t h hc41
    refine aw_skip ?_
    refine aw_seq ?_
    refine aw_block ?_
    refine aw_seq ?_
    refine aw_region ?_
    refine awl_val hτ rfl rfl rfl ?_
    refine awl_val hτ rfl rfl rfl ?_
    refine awl_nil ?_
    refine aw_seq ?_
    refine aw_region ?_
    refine awl_val hτ rfl rfl rfl ?_
    refine bnd_elim h fun x42 hx42 h => ?_
    refine awl_callP hτ false [] rfl rfl rfl (enterOk func70 rfl rfl) rfl rfl (by simp) ⟨trivial, trivial⟩ (by repeat' first | exact trivial | refine ⟨?_, ?_⟩) (slices_Clone_ok n closed_ hx42) ?_
    rintro r0 o0 n0 ⟨rfl, rfl, rfl⟩ -
    refine awl_val hτ rfl rfl rfl ?_
    refine awl_val hτ rfl rfl rfl ?_
    refine awl_val hτ rfl rfl rfl ?_
    refine bnd_elim h fun x43 hx43 h => ?_
    refine awl_callP hτ false [2] rfl rfl rfl (enterOk func69 rfl rfl) rfl rfl (by simp) ⟨trivial, trivial, trivial, trivial⟩ (by repeat' first | exact trivial | refine ⟨?_, ?_⟩) (slices_Delete_ok n x42 v29 (w64 (v29 + (1 : Int))) hx43) ?_
    rintro r0 o0 n0 ⟨rfl, rfl, rfl⟩ -
    refine grd_elim h fun hg44 h => ?_
    refine awl_val hτ rfl rfl rfl ?_
    refine awl_nil ?_
    refine aw_weak (weak_ofP [0, 1, 2] (l := [(0, .ptr 0 0), (1, .d (.int .i64 bus_)), (2, .d (.sl false (closed_.map eInti64))), (7, .row 1 v28.length 0 v28.length), (8, .d (.int .u64 x20)), (10, .row 2 x42.length 0 (x42.length - ((w64 (v29 + (1 : Int))).toNat - v29.toNat))), (17, .d (.int .i64 (closed_.length : Int))), (18, .d (.int .i64 v29))]) (objs := [.box [.d (.cx .f32 g_.Feeder.Source.A.re g_.Feeder.Source.A.im), .d (.cx .f32 g_.Feeder.Source.B.re g_.Feeder.Source.B.im), .d (.cx .f32 g_.Feeder.Source.C.re g_.Feeder.Source.C.im), .d (.sl false (g_.Feeder.Buses.map eSBus)), .d (.sl false (g_.Ties.map eSTie))], .row 1 (v28.map eInti64), .row 1 (x43.map eInti64)]) rfl (by simp) rfl (by repeat' first | exact trivial | refine ⟨?_, ?_⟩) ⟨rfl, trivial, rfl, trivial, rfl, trivial, rfl, trivial, rfl, trivial, rfl, trivial, rfl, trivial, rfl, trivial, trivial⟩) ?_
    refine aw_weak (weak_ofP [0, 1] (l := [(0, .ptr 0 0), (1, .d (.int .i64 bus_)), (2, .d (.sl false (closed_.map eInti64))), (7, .row 1 v28.length 0 v28.length), (8, .d (.int .u64 x20)), (10, .d (.sl false ((((x43).drop 0).take (x42.length - ((w64 (v29 + (1 : Int))).toNat - v29.toNat))).map eInti64))), (17, .d (.int .i64 (closed_.length : Int))), (18, .d (.int .i64 v29))]) (objs := [.box [.d (.cx .f32 g_.Feeder.Source.A.re g_.Feeder.Source.A.im), .d (.cx .f32 g_.Feeder.Source.B.re g_.Feeder.Source.B.im), .d (.cx .f32 g_.Feeder.Source.C.re g_.Feeder.Source.C.im), .d (.sl false (g_.Feeder.Buses.map eSBus)), .d (.sl false (g_.Ties.map eSTie))], .row 1 (v28.map eInti64)]) rfl (by simp) rfl (by repeat' first | exact trivial | refine ⟨?_, ?_⟩) ⟨rfl, trivial, rfl, trivial, rfl, trivial, rfl, trivial, rfl, trivial, (exV_sub (f := eInti64) x43 rfl rfl), (exVP_sub (f := eInti64) x43 rfl rfl (by simp [hg44]) (by omega)), rfl, trivial, rfl, trivial, trivial⟩) ?_
    refine any_start ?_
    refine any_val hτ [] 0 rfl rfl rfl rfl rfl ?_
    refine any_val hτ [] 1 rfl rfl rfl rfl rfl ?_
    refine any_val hτ [] 2 rfl rfl rfl rfl rfl ?_
    refine any_val hτ [0] 3 rfl rfl rfl rfl rfl ?_
    refine any_val hτ [] 4 rfl rfl rfl rfl rfl ?_
    refine any_val hτ [] 5 rfl rfl rfl rfl rfl ?_
    refine any_val hτ [] 6 rfl rfl rfl rfl rfl ?_
    refine any_val hτ [] 7 rfl rfl rfl rfl rfl ?_
    refine bnd_elim h fun x45 hx45 h => ?_
    refine any_callP hτ false [0] [0, 1] 8 rfl rfl rfl rfl (enterOk func40 rfl rfl) rfl rfl (by simp) ⟨trivial, trivial, trivial, trivial, trivial⟩ (by repeat' first | exact trivial | refine ⟨?_, ?_⟩) (impl_Grid_hung_ok n g_ bus_ (((x43).drop 0).take (x42.length - ((w64 (v29 + (1 : Int))).toNat - v29.toNat))) (0 : Int) hx45) ⟨rfl, rfl, trivial⟩ ?_
    refine any_val hτ [] 9 rfl rfl rfl rfl rfl ?_
    refine bnd_elim h fun x46 hx46 h => ?_
    refine any_callP hτ false [] [0, 1] 10 rfl rfl rfl rfl (enterOk func39 rfl rfl) rfl rfl (by simp) ⟨trivial, trivial⟩ (by repeat' first | exact trivial | refine ⟨?_, ?_⟩) (impl_listed_ok n (ibits .andNot .u64 x20 x45) hx46) ⟨rfl, rfl, trivial⟩ ?_
    refine bnd_elim h fun x47 hx47 h => ?_
    refine any_callP hτ false [0, 2] [0, 1, 2] 11 rfl rfl rfl rfl (enterOk func71 rfl rfl) rfl rfl (by simp) ⟨trivial, trivial, trivial⟩ (by repeat' first | exact trivial | refine ⟨?_, ?_⟩) (impl_Feeder_customers_2_ok n g_ x46 hx47) ⟨rfl, rfl, rfl, trivial⟩ ?_
    refine any_valHP hτ [0, 1, 2] 12 rfl rfl rfl rfl ⟨rfl, rfl, rfl, trivial⟩ ?_
    refine grd_elim h fun hg48 h => ?_
    refine any_needHP hτ [0, 2, 3] 13 rfl rfl rfl (Eq.trans rfl (or_append (f := eInti64) v28 [x47] rfl)) ⟨⟨rfl, Nat.le_of_ble_eq_true rfl⟩, len_map _, rfl, rfl, hg48, by decide, (all1 rfl)⟩ ⟨rfl, rfl, rfl, trivial⟩ ?_
    refine any_val hτ [] 14 rfl rfl rfl rfl rfl ?_
    refine any_done mixed (by kernel_rfl) ?_
    refine aw_weak (weak_ofP [0, 1] (l := [(0, .ptr 0 0), (1, .d (.int .i64 bus_)), (2, .d (.sl false (closed_.map eInti64))), (7, .row 1 ((v28 ++ [x47]).length) 0 ((v28 ++ [x47]).length)), (8, .d (.int .u64 x20)), (17, .d (.int .i64 (closed_.length : Int))), (18, .d (.int .i64 v29))]) (objs := [.box [.d (.cx .f32 g_.Feeder.Source.A.re g_.Feeder.Source.A.im), .d (.cx .f32 g_.Feeder.Source.B.re g_.Feeder.Source.B.im), .d (.cx .f32 g_.Feeder.Source.C.re g_.Feeder.Source.C.im), .d (.sl false (g_.Feeder.Buses.map eSBus)), .d (.sl false (g_.Ties.map eSTie))], .row 1 ((v28 ++ [x47]).map eInti64)]) rfl (by simp) rfl (by repeat' first | exact trivial | refine ⟨?_, ?_⟩) ⟨rfl, trivial, rfl, trivial, rfl, trivial, rfl, trivial, rfl, trivial, rfl, trivial, rfl, trivial, trivial⟩) ?_
    refine aw_region ?_
    refine awl_val hτ rfl rfl rfl ?_
    refine awl_val hτ rfl rfl rfl ?_
    refine awl_nil ?_
    exact ⟨(m39, (v28 ++ [x47]), (w64 (v29 + (1 : Int)))), h, Nat.lt_succ_self m39, (weak_ofP [0, 1] (l := [(0, .ptr 0 0), (1, .d (.int .i64 bus_)), (2, .d (.sl false (closed_.map eInti64))), (7, .row 1 ((v28 ++ [x47]).length) 0 ((v28 ++ [x47]).length)), (8, .d (.int .u64 x20)), (17, .d (.int .i64 (closed_.length : Int))), (18, .d (.int .i64 (w64 (v29 + (1 : Int)))))]) (objs := [.box [.d (.cx .f32 g_.Feeder.Source.A.re g_.Feeder.Source.A.im), .d (.cx .f32 g_.Feeder.Source.B.re g_.Feeder.Source.B.im), .d (.cx .f32 g_.Feeder.Source.C.re g_.Feeder.Source.C.im), .d (.sl false (g_.Feeder.Buses.map eSBus)), .d (.sl false (g_.Ties.map eSTie))], .row 1 ((v28 ++ [x47]).map eInti64)]) rfl (by simp) rfl (by repeat' first | exact trivial | refine ⟨?_, ?_⟩) ⟨rfl, trivial, rfl, trivial, rfl, trivial, rfl, trivial, rfl, trivial, rfl, trivial, rfl, trivial, trivial⟩)⟩
  · have h := if_f h hc41
    refine aw_exit ?_
    refine aw_seq ?_
    refine aw_region ?_
    refine awl_val hτ rfl rfl rfl ?_
    refine awl_val hτ rfl rfl rfl ?_
    refine awl_nil ?_
    refine aw_weak (weak_ofP [0, 1] (l := [(6, .row 1 v28.length 0 v28.length)]) (objs := [.box [.d (.cx .f32 g_.Feeder.Source.A.re g_.Feeder.Source.A.im), .d (.cx .f32 g_.Feeder.Source.B.re g_.Feeder.Source.B.im), .d (.cx .f32 g_.Feeder.Source.C.re g_.Feeder.Source.C.im), .d (.sl false (g_.Feeder.Buses.map eSBus)), .d (.sl false (g_.Ties.map eSTie))], .row 1 (v28.map eInti64)]) rfl (by simp) rfl (by repeat' first | exact trivial | refine ⟨?_, ?_⟩) ⟨rfl, trivial, trivial⟩) ?_
    refine aw_ret ?_
    have hr := Option.some.inj h
    subst hr
    exact ret_objs (.inr rfl) [1] (objs' := [.box [.d (.cx .f32 g_.Feeder.Source.A.re g_.Feeder.Source.A.im), .d (.cx .f32 g_.Feeder.Source.B.re g_.Feeder.Source.B.im), .d (.cx .f32 g_.Feeder.Source.C.re g_.Feeder.Source.C.im), .d (.sl false (g_.Feeder.Buses.map eSBus)), .d (.sl false (g_.Ties.map eSTie))]]) (new := [.row 1 (v28.map eInti64)]) rfl (by simp) (by simp) rfl (by repeat' first | exact trivial | refine ⟨?_, ?_⟩) rfl rfl (by repeat' first | exact trivial | refine ⟨?_, ?_⟩) (fun h => nomatch h) ⟨rfl, rfl, rfl⟩

def m_impl_BehindTies_j1 (n : Nat) (g_ : SGrid) (bus_ : Int) (closed_ : List Int) : Option (List Int × Bool) :=
  (m_impl_Grid_behind n g_ bus_ closed_).bind fun x10 =>
  some (x10, true)
def m_impl_BehindTies_j2 (n : Nat) (g_ : SGrid) (bus_ : Int) (closed_ : List Int) (v16 : Bool) : Option (List Int × Bool) :=
  if v16 = true then
    some (([] : List Int), false)
  else
    m_impl_BehindTies_j1 n g_ bus_ closed_
def m_impl_BehindTies (n : Nat) (g_ : SGrid) (bus_ : Int) (closed_ : List Int) : Option (List Int × Bool) :=
  (m_impl_Grid_closing n g_ bus_ closed_).bind fun x19 =>
  if x19 = true then
    (m_impl_Grid_loops n g_ bus_ closed_).bind fun x21 =>
    m_impl_BehindTies_j2 n g_ bus_ closed_ x21
  else
    m_impl_BehindTies_j2 n g_ bus_ closed_ true
theorem impl_BehindTies_ok_fr0 (fr : Bool) (n : Nat) (g_ : SGrid) (bus_ : Int) (closed_ : List Int) {r : List Int × Bool} (h : m_impl_BehindTies n g_ bus_ closed_ = some r) : ACall prog fr 15 [.agg [.d (.cx .f32 g_.Feeder.Source.A.re g_.Feeder.Source.A.im), .d (.cx .f32 g_.Feeder.Source.B.re g_.Feeder.Source.B.im), .d (.cx .f32 g_.Feeder.Source.C.re g_.Feeder.Source.C.im), .d (.sl false (g_.Feeder.Buses.map eSBus)), .d (.sl false (g_.Ties.map eSTie))], .d (.int .i64 bus_), .d (.sl false (closed_.map eInti64))] [] (fun v o new => v = .tup [.row 0 r.1.length 0 r.1.length, .d (.bool r.2)] ∧ o = [] ∧ new = [.row 1 (r.1.map eInti64)]) := by
  refine acall_of_aw hτ func15 rfl (by simp) (by simp) ?_
  unfold m_impl_BehindTies at h
  refine aw_seq ?_
  refine aw_region ?_
  refine awl_valH hτ rfl rfl rfl ?_
  refine awl_val hτ rfl rfl rfl ?_
  refine awl_val hτ rfl rfl rfl ?_
  refine awl_nil ?_
  refine aw_hk1 (ι := Unit) (fun _ => St.of [(1, .d (.int .i64 bus_)), (2, .d (.sl false (closed_.map eInti64))), (3, .ptr 0 0)] [.box [.d (.cx .f32 g_.Feeder.Source.A.re g_.Feeder.Source.A.im), .d (.cx .f32 g_.Feeder.Source.B.re g_.Feeder.Source.B.im), .d (.cx .f32 g_.Feeder.Source.C.re g_.Feeder.Source.C.im), .d (.sl false (g_.Feeder.Buses.map eSBus)), .d (.sl false (g_.Ties.map eSTie))]] f15.ntmps 0) (fun _ => m_impl_BehindTies_j1 n g_ bus_ closed_ = some r) ?_ (fun hk11 => ?_)
  · rintro ⟨⟩ h
    replace h : m_impl_BehindTies_j1 n g_ bus_ closed_ = some r := h
    unfold m_impl_BehindTies_j1 at h
    refine aw_seq ?_
    refine aw_region ?_
    refine awl_val hτ rfl rfl rfl ?_
    refine awl_val hτ rfl rfl rfl ?_
    refine bnd_elim h fun x10 hx10 h => ?_
    refine awl_callP hτ false [0] rfl rfl rfl (enterOk func42 rfl rfl) rfl rfl (by simp) ⟨trivial, trivial, trivial, trivial⟩ (by repeat' first | exact trivial | refine ⟨?_, ?_⟩) (impl_Grid_behind_ok n g_ bus_ closed_ hx10) ?_
    rintro r0 o0 n0 ⟨rfl, rfl, rfl⟩ -
    refine awl_val hτ rfl rfl rfl ?_
    refine awl_val hτ rfl rfl rfl ?_
    refine awl_nil ?_
    refine aw_weak (weak_ofP [1] (l := [(6, .row 0 x10.length 0 x10.length), (7, .d (.bool true))]) (objs := [.row 1 (x10.map eInti64)]) rfl (by simp) rfl (by repeat' first | exact trivial | refine ⟨?_, ?_⟩) ⟨rfl, trivial, rfl, trivial, trivial⟩) ?_
    refine aw_ret ?_
    have hr := Option.some.inj h
    subst hr
    exact ret_objs (.inr rfl) [0] (objs' := []) (new := [.row 1 (x10.map eInti64)]) rfl (by simp) (by simp) rfl (by repeat' first | exact trivial | refine ⟨?_, ?_⟩) rfl rfl (by repeat' first | exact trivial | refine ⟨?_, ?_⟩) (fun _ => ⟨by simp [V.flat, V.flatA, V.flatC, D.flat], (flat_cons (flat_row eInti64_flat _) flat_nil)⟩) ⟨rfl, rfl, rfl⟩
  · refine aw_seq ?_
    refine aw_hk1 (ι := Bool) (fun v16 => St.of [(1, .d (.int .i64 bus_)), (2, .d (.sl false (closed_.map eInti64))), (3, .ptr 0 0), (16, .d (.bool v16))] [.box [.d (.cx .f32 g_.Feeder.Source.A.re g_.Feeder.Source.A.im), .d (.cx .f32 g_.Feeder.Source.B.re g_.Feeder.Source.B.im), .d (.cx .f32 g_.Feeder.Source.C.re g_.Feeder.Source.C.im), .d (.sl false (g_.Feeder.Buses.map eSBus)), .d (.sl false (g_.Ties.map eSTie))]] f15.ntmps 0) (fun v16 => m_impl_BehindTies_j2 n g_ bus_ closed_ v16 = some r) ?_ (fun hk18 => ?_)
    · rintro v16 h
      replace h : m_impl_BehindTies_j2 n g_ bus_ closed_ v16 = some r := h
      unfold m_impl_BehindTies_j2 at h
      refine aw_cond rfl (fun hc17 => ?_) (fun hc17 => ?_)
      · have h := if_bt h hc17
        refine aw_seq ?_
        refine aw_region ?_
        refine awl_val hτ rfl rfl rfl ?_
        refine awl_val hτ rfl rfl rfl ?_
        refine awl_nil ?_
        refine aw_weak (weak_ofP [] (l := [(6, .d (.nils)), (7, .d (.bool false))]) (objs := []) rfl (by simp) rfl (by repeat' first | exact trivial | refine ⟨?_, ?_⟩) ⟨rfl, trivial, rfl, trivial, trivial⟩) ?_
        refine aw_weak (weak_relax [1] (l' := [(6, .row 0 (([] : List Int).length) 0 (([] : List Int).length)), (7, .d (.bool false))]) (objs' := []) (.cons (.c (.ghost ⟨Nat.le_of_ble_eq_true rfl, Nat.le_of_ble_eq_true rfl⟩)) (.cons (.c (.refl _)) .nil)) .nil) ?_
        refine aw_ret ?_
        have hr := Option.some.inj h
        subst hr
        exact ret_objs (.inr rfl) [0] (objs' := []) (new := [.row 1 (([] : List Int).map eInti64)]) rfl (by simp) (by simp) rfl (by repeat' first | exact trivial | refine ⟨?_, ?_⟩) rfl rfl (by repeat' first | exact trivial | refine ⟨?_, ?_⟩) (fun _ => ⟨by simp [V.flat, V.flatA, V.flatC, D.flat], (flat_cons (flat_row eInti64_flat _) flat_nil)⟩) ⟨rfl, rfl, rfl⟩
      · have h := if_bf h hc17
        refine aw_skip ?_
        refine aw_weak (weak_ofP [0] (l := [(1, .d (.int .i64 bus_)), (2, .d (.sl false (closed_.map eInti64))), (3, .ptr 0 0)]) (objs := [.box [.d (.cx .f32 g_.Feeder.Source.A.re g_.Feeder.Source.A.im), .d (.cx .f32 g_.Feeder.Source.B.re g_.Feeder.Source.B.im), .d (.cx .f32 g_.Feeder.Source.C.re g_.Feeder.Source.C.im), .d (.sl false (g_.Feeder.Buses.map eSBus)), .d (.sl false (g_.Ties.map eSTie))]]) rfl (by simp) rfl (by repeat' first | exact trivial | refine ⟨?_, ?_⟩) ⟨rfl, trivial, rfl, trivial, rfl, trivial, trivial⟩) ?_
        exact hk11 () h
    · refine aw_seq ?_
      refine aw_region ?_
      refine awl_val hτ rfl rfl rfl ?_
      refine awl_val hτ rfl rfl rfl ?_
      refine bnd_elim h fun x19 hx19 h => ?_
      refine awl_callP hτ false [0] rfl rfl rfl (enterOk func38 rfl rfl) rfl rfl (by simp) ⟨trivial, trivial, trivial, trivial⟩ (by repeat' first | exact trivial | refine ⟨?_, ?_⟩) (impl_Grid_closing_ok n g_ bus_ closed_ hx19) ?_
      rintro r0 o0 n0 ⟨rfl, rfl, rfl⟩ -
      refine awl_val hτ rfl rfl rfl ?_
      refine awl_val hτ rfl rfl rfl ?_
      refine awl_split 12 rfl (fun hb20 => ?_) (fun hb20 => ?_)
      · have hb20 := not_t hb20
        have h := if_bf h hb20
        refine awl_skip rfl rfl ?_
        refine awl_skip rfl rfl ?_
        refine awl_skip rfl rfl ?_
        refine awl_val hτ rfl rfl rfl ?_
        refine awl_nil ?_
        refine aw_weak (weak_ofP [0] (l := [(1, .d (.int .i64 bus_)), (2, .d (.sl false (closed_.map eInti64))), (3, .ptr 0 0), (16, .d (.bool true))]) (objs := [.box [.d (.cx .f32 g_.Feeder.Source.A.re g_.Feeder.Source.A.im), .d (.cx .f32 g_.Feeder.Source.B.re g_.Feeder.Source.B.im), .d (.cx .f32 g_.Feeder.Source.C.re g_.Feeder.Source.C.im), .d (.sl false (g_.Feeder.Buses.map eSBus)), .d (.sl false (g_.Ties.map eSTie))]]) rfl (by simp) rfl (by repeat' first | exact trivial | refine ⟨?_, ?_⟩) ⟨rfl, trivial, rfl, trivial, rfl, trivial, rfl, trivial, trivial⟩) ?_
        exact hk18 true h
      · have hb20 := not_f hb20
        have h := if_bt h hb20
        refine awl_val hτ rfl rfl rfl ?_
        refine awl_val hτ rfl rfl rfl ?_
        refine bnd_elim h fun x21 hx21 h => ?_
        refine awl_callP hτ false [0] rfl rfl rfl (enterOk func41 rfl rfl) rfl rfl (by simp) ⟨trivial, trivial, trivial, trivial⟩ (by repeat' first | exact trivial | refine ⟨?_, ?_⟩) (impl_Grid_loops_ok n g_ bus_ closed_ hx21) ?_
        rintro r0 o0 n0 ⟨rfl, rfl, rfl⟩ -
        refine awl_val hτ rfl rfl rfl ?_
        refine awl_nil ?_
        refine aw_weak (weak_ofP [0] (l := [(1, .d (.int .i64 bus_)), (2, .d (.sl false (closed_.map eInti64))), (3, .ptr 0 0), (16, .d (.bool x21))]) (objs := [.box [.d (.cx .f32 g_.Feeder.Source.A.re g_.Feeder.Source.A.im), .d (.cx .f32 g_.Feeder.Source.B.re g_.Feeder.Source.B.im), .d (.cx .f32 g_.Feeder.Source.C.re g_.Feeder.Source.C.im), .d (.sl false (g_.Feeder.Buses.map eSBus)), .d (.sl false (g_.Ties.map eSTie))]]) rfl (by simp) rfl (by repeat' first | exact trivial | refine ⟨?_, ?_⟩) ⟨rfl, trivial, rfl, trivial, rfl, trivial, rfl, trivial, trivial⟩) ?_
        exact hk18 x21 h
theorem impl_BehindTies_ok (n : Nat) (g_ : SGrid) (bus_ : Int) (closed_ : List Int) {r : List Int × Bool} (h : m_impl_BehindTies n g_ bus_ closed_ = some r) : ACall prog false 15 [.agg [.d (.cx .f32 g_.Feeder.Source.A.re g_.Feeder.Source.A.im), .d (.cx .f32 g_.Feeder.Source.B.re g_.Feeder.Source.B.im), .d (.cx .f32 g_.Feeder.Source.C.re g_.Feeder.Source.C.im), .d (.sl false (g_.Feeder.Buses.map eSBus)), .d (.sl false (g_.Ties.map eSTie))], .d (.int .i64 bus_), .d (.sl false (closed_.map eInti64))] [] (fun v o new => v = .tup [.row 0 r.1.length 0 r.1.length, .d (.bool r.2)] ∧ o = [] ∧ new = [.row 1 (r.1.map eInti64)]) := impl_BehindTies_ok_fr0 false n g_ bus_ closed_ h
theorem impl_BehindTies_ok_fr (n : Nat) (g_ : SGrid) (bus_ : Int) (closed_ : List Int) {r : List Int × Bool} (h : m_impl_BehindTies n g_ bus_ closed_ = some r) : ACall prog true 15 [.agg [.d (.cx .f32 g_.Feeder.Source.A.re g_.Feeder.Source.A.im), .d (.cx .f32 g_.Feeder.Source.B.re g_.Feeder.Source.B.im), .d (.cx .f32 g_.Feeder.Source.C.re g_.Feeder.Source.C.im), .d (.sl false (g_.Feeder.Buses.map eSBus)), .d (.sl false (g_.Ties.map eSTie))], .d (.int .i64 bus_), .d (.sl false (closed_.map eInti64))] [] (fun v o new => v = .tup [.row 0 r.1.length 0 r.1.length, .d (.bool r.2)] ∧ o = [] ∧ new = [.row 1 (r.1.map eInti64)]) := impl_BehindTies_ok_fr0 true n g_ bus_ closed_ h

def m_laws_r8In_l1 (n : Nat) (list_ : List Int) (n_ : Int) : Nat → Int → Option Bool
  | 0, _ => none
  | m9 + 1, v6 =>
    if v6 < (list_.length : Int) then
      (getI list_ v6).bind fun x13 =>
      if x13 = n_ then
        some true
      else
        (m_laws_r8In_l1 n list_ n_ m9) (w64 (v6 + (1 : Int)))
    else
      some false
def m_laws_r8In (n : Nat) (list_ : List Int) (n_ : Int) : Option Bool :=
  m_laws_r8In_l1 n list_ n_ n (0 : Int)
theorem laws_r8In_ok_fr0 (fr : Bool) (n : Nat) (list_ : List Int) (n_ : Int) {r : Bool} (h : m_laws_r8In n list_ n_ = some r) : ACall prog fr 16 [.d (.sl false (list_.map eInti64)), .d (.int .i64 n_)] [] (fun v o new => v = .d (.bool r) ∧ o = [] ∧ new = []) := by
  refine acall_of_aw hτ func16 rfl (by simp) (by simp) ?_
  unfold m_laws_r8In at h
  refine aw_seq ?_
  refine aw_region ?_
  refine awl_val hτ rfl rfl rfl ?_
  refine awl_nil ?_
  refine aw_seq ?_
  refine aw_seq ?_
  refine aw_region ?_
  refine awl_val hτ rfl rfl rfl ?_
  refine awl_nil ?_
  refine aw_block ?_
  refine aw_loop (ι := Nat × Int) (fun (m9, v6) => St.of [(0, .d (.sl false (list_.map eInti64))), (1, .d (.int .i64 n_)), (5, .d (.int .i64 v6))] [] f16.ntmps 0) (fun (m9, v6) => m_laws_r8In_l1 n list_ n_ m9 v6 = some r) (fun x => x.1) (n, (0 : Int)) h (weak_ofP [] (l := [(0, .d (.sl false (list_.map eInti64))), (1, .d (.int .i64 n_)), (5, .d (.int .i64 (0 : Int)))]) (objs := []) rfl (by simp) rfl (by repeat' first | exact trivial | refine ⟨?_, ?_⟩) ⟨rfl, trivial, rfl, trivial, rfl, trivial, trivial⟩) ?_
  rintro ⟨m9, v6⟩ h
  replace h : m_laws_r8In_l1 n list_ n_ m9 v6 = some r := h
  rcases m9 with _ | m9
  · rw [m_laws_r8In_l1] at h; cases h
  rw [m_laws_r8In_l1] at h
  refine aw_seq ?_
  refine aw_seq ?_
  refine aw_region ?_
  refine awl_val hτ rfl rfl rfl ?_
  refine awl_val hτ rfl rfl rfl ?_
  refine awl_val hτ (v := .d (.int .i64 (list_.length : Int))) rfl rfl (Eq.trans rfl (or_len (f := eInti64) list_)) ?_
  refine awl_val hτ rfl rfl rfl ?_
  refine awl_nil ?_
  refine aw_cond rfl (fun hc11 => ?_) (fun hc11 => ?_)
  · have h := if_t h hc11
    refine aw_skip ?_
    refine aw_seq ?_
    refine aw_block ?_
    refine aw_seq ?_
    refine aw_region ?_
    refine awl_val hτ rfl rfl rfl ?_
    refine awl_val hτ rfl rfl rfl ?_
    refine bnd_elim h fun x13 hx13 h => ?_
    refine awl_elem hτ rfl rfl rfl (getI_some hx13).1 (map_getI hx13) rfl ?_
    refine awl_val hτ rfl rfl rfl ?_
    refine awl_val hτ rfl rfl rfl ?_
    refine awl_val hτ (v := .d (.bool (decide (x13 = n_)))) rfl rfl (or_ieq _ _) ?_
    refine awl_nil ?_
    refine aw_weak (weak_ofP [] (l := [(0, .d (.sl false (list_.map eInti64))), (1, .d (.int .i64 n_)), (5, .d (.int .i64 v6)), (17, .d (.bool (decide (x13 = n_))))]) (objs := []) rfl (by simp) rfl (by repeat' first | exact trivial | refine ⟨?_, ?_⟩) ⟨rfl, trivial, rfl, trivial, rfl, trivial, rfl, trivial, trivial⟩) ?_
    refine aw_cond rfl (fun hc14 => ?_) (fun hc14 => ?_)
    · have h := if_t h hc14
      refine aw_seq ?_
      refine aw_region ?_
      refine awl_val hτ rfl rfl rfl ?_
      refine awl_nil ?_
      refine aw_weak (weak_ofP [] (l := [(4, .d (.bool true))]) (objs := []) rfl (by simp) rfl (by repeat' first | exact trivial | refine ⟨?_, ?_⟩) ⟨rfl, trivial, trivial⟩) ?_
      refine aw_ret ?_
      have hr := Option.some.inj h
      subst hr
      exact ret_objs (.inr rfl) [] (objs' := []) (new := []) rfl (by simp) (by simp) rfl (by repeat' first | exact trivial | refine ⟨?_, ?_⟩) rfl rfl (by repeat' first | exact trivial | refine ⟨?_, ?_⟩) (fun _ => ⟨by simp [V.flat, V.flatA, V.flatC, D.flat], flat_nil⟩) ⟨rfl, rfl, rfl⟩
    · have h := if_f h hc14
      refine aw_skip ?_
      refine aw_region ?_
      refine awl_val hτ rfl rfl rfl ?_
      refine awl_val hτ rfl rfl rfl ?_
      refine awl_val hτ rfl rfl rfl ?_
      refine awl_nil ?_
      exact ⟨(m9, (w64 (v6 + (1 : Int)))), h, Nat.lt_succ_self m9, (weak_ofP [] (l := [(0, .d (.sl false (list_.map eInti64))), (1, .d (.int .i64 n_)), (5, .d (.int .i64 (w64 (v6 + (1 : Int)))))]) (objs := []) rfl (by simp) rfl (by repeat' first | exact trivial | refine ⟨?_, ?_⟩) ⟨rfl, trivial, rfl, trivial, rfl, trivial, trivial⟩)⟩
  · have h := if_f h hc11
    refine aw_exit ?_
    refine aw_seq ?_
    refine aw_region ?_
    refine awl_val hτ rfl rfl rfl ?_
    refine awl_nil ?_
    refine aw_weak (weak_ofP [] (l := [(4, .d (.bool false))]) (objs := []) rfl (by simp) rfl (by repeat' first | exact trivial | refine ⟨?_, ?_⟩) ⟨rfl, trivial, trivial⟩) ?_
    refine aw_ret ?_
    have hr := Option.some.inj h
    subst hr
    exact ret_objs (.inr rfl) [] (objs' := []) (new := []) rfl (by simp) (by simp) rfl (by repeat' first | exact trivial | refine ⟨?_, ?_⟩) rfl rfl (by repeat' first | exact trivial | refine ⟨?_, ?_⟩) (fun _ => ⟨by simp [V.flat, V.flatA, V.flatC, D.flat], flat_nil⟩) ⟨rfl, rfl, rfl⟩
theorem laws_r8In_ok (n : Nat) (list_ : List Int) (n_ : Int) {r : Bool} (h : m_laws_r8In n list_ n_ = some r) : ACall prog false 16 [.d (.sl false (list_.map eInti64)), .d (.int .i64 n_)] [] (fun v o new => v = .d (.bool r) ∧ o = [] ∧ new = []) := laws_r8In_ok_fr0 false n list_ n_ h
theorem laws_r8In_ok_fr (n : Nat) (list_ : List Int) (n_ : Int) {r : Bool} (h : m_laws_r8In n list_ n_ = some r) : ACall prog true 16 [.d (.sl false (list_.map eInti64)), .d (.int .i64 n_)] [] (fun v o new => v = .d (.bool r) ∧ o = [] ∧ new = []) := laws_r8In_ok_fr0 true n list_ n_ h

def m_impl_Grid_lit (n : Nat) (g_ : SGrid) (bus_ : Int) (closed_ : List Int) : Option Int :=
  (m_impl_Grid_hung n g_ bus_ closed_ (0 : Int)).bind fun x4 =>
  (m_impl_listed n x4).bind fun x5 =>
  (m_impl_Feeder_customers_2 n g_ x5).bind fun x6 =>
  some x6
theorem impl_Grid_lit_ok (n : Nat) (g_ : SGrid) (bus_ : Int) (closed_ : List Int) {r : Int} (h : m_impl_Grid_lit n g_ bus_ closed_ = some r) : ACall prog false 43 [.ptr 0 0, .d (.int .i64 bus_), .d (.sl false (closed_.map eInti64))] [.box [.d (.cx .f32 g_.Feeder.Source.A.re g_.Feeder.Source.A.im), .d (.cx .f32 g_.Feeder.Source.B.re g_.Feeder.Source.B.im), .d (.cx .f32 g_.Feeder.Source.C.re g_.Feeder.Source.C.im), .d (.sl false (g_.Feeder.Buses.map eSBus)), .d (.sl false (g_.Ties.map eSTie))]] (fun v o new => v = .d (.int .i64 r) ∧ o = [.box [.d (.cx .f32 g_.Feeder.Source.A.re g_.Feeder.Source.A.im), .d (.cx .f32 g_.Feeder.Source.B.re g_.Feeder.Source.B.im), .d (.cx .f32 g_.Feeder.Source.C.re g_.Feeder.Source.C.im), .d (.sl false (g_.Feeder.Buses.map eSBus)), .d (.sl false (g_.Ties.map eSTie))]] ∧ new = []) := by
  refine acall_of_aw hτ func43 rfl (by simp) (by simp) ?_
  unfold m_impl_Grid_lit at h
  refine aw_seq ?_
  refine aw_region ?_
  refine awl_val hτ rfl rfl rfl ?_
  refine awl_nil ?_
  refine aw_seq ?_
  refine any_start ?_
  refine any_val hτ [] 0 rfl rfl rfl rfl rfl ?_
  refine any_val hτ [] 1 rfl rfl rfl rfl rfl ?_
  refine any_val hτ [0] 2 rfl rfl rfl rfl rfl ?_
  refine any_val hτ [] 3 rfl rfl rfl rfl rfl ?_
  refine any_val hτ [] 4 rfl rfl rfl rfl rfl ?_
  refine any_val hτ [] 5 rfl rfl rfl rfl rfl ?_
  refine bnd_elim h fun x4 hx4 h => ?_
  refine any_callP hτ false [0] [0] 6 rfl rfl rfl rfl (enterOk func40 rfl rfl) rfl rfl (by simp) ⟨trivial, trivial, trivial, trivial, trivial⟩ (by repeat' first | exact trivial | refine ⟨?_, ?_⟩) (impl_Grid_hung_ok n g_ bus_ closed_ (0 : Int) hx4) ⟨rfl, trivial⟩ ?_
  refine bnd_elim h fun x5 hx5 h => ?_
  refine any_callP hτ false [] [0] 7 rfl rfl rfl rfl (enterOk func39 rfl rfl) rfl rfl (by simp) ⟨trivial, trivial⟩ (by repeat' first | exact trivial | refine ⟨?_, ?_⟩) (impl_listed_ok n x4 hx5) ⟨rfl, trivial⟩ ?_
  refine bnd_elim h fun x6 hx6 h => ?_
  refine any_callP hτ false [0, 1] [0, 1] 8 rfl rfl rfl rfl (enterOk func71 rfl rfl) rfl rfl (by simp) ⟨trivial, trivial, trivial⟩ (by repeat' first | exact trivial | refine ⟨?_, ?_⟩) (impl_Feeder_customers_2_ok n g_ x5 hx6) ⟨rfl, rfl, trivial⟩ ?_
  refine any_val hτ [] 9 rfl rfl rfl rfl rfl ?_
  refine any_done mixed (by kernel_rfl) ?_
  refine aw_weak (weak_ofP [0] (l := [(6, .d (.int .i64 x6))]) (objs := [.box [.d (.cx .f32 g_.Feeder.Source.A.re g_.Feeder.Source.A.im), .d (.cx .f32 g_.Feeder.Source.B.re g_.Feeder.Source.B.im), .d (.cx .f32 g_.Feeder.Source.C.re g_.Feeder.Source.C.im), .d (.sl false (g_.Feeder.Buses.map eSBus)), .d (.sl false (g_.Ties.map eSTie))]]) rfl (by simp) rfl (by repeat' first | exact trivial | refine ⟨?_, ?_⟩) ⟨rfl, trivial, trivial⟩) ?_
  refine aw_ret ?_
  have hr := Option.some.inj h
  subst hr
  exact ret_objs (.inr rfl) [] (objs' := [.box [.d (.cx .f32 g_.Feeder.Source.A.re g_.Feeder.Source.A.im), .d (.cx .f32 g_.Feeder.Source.B.re g_.Feeder.Source.B.im), .d (.cx .f32 g_.Feeder.Source.C.re g_.Feeder.Source.C.im), .d (.sl false (g_.Feeder.Buses.map eSBus)), .d (.sl false (g_.Ties.map eSTie))]]) (new := []) rfl (by simp) (by simp) rfl (by repeat' first | exact trivial | refine ⟨?_, ?_⟩) rfl rfl (by repeat' first | exact trivial | refine ⟨?_, ?_⟩) (fun h => nomatch h) ⟨rfl, rfl, rfl⟩

def m_impl_CustomersLit (n : Nat) (g_ : SGrid) (bus_ : Int) (closed_ : List Int) : Option (Int × Bool) :=
  (m_impl_Grid_closing n g_ bus_ closed_).bind fun x4 =>
  if x4 = true then
    (m_impl_Grid_lit n g_ bus_ closed_).bind fun x6 =>
    some (x6, true)
  else
    some ((0 : Int), false)
theorem impl_CustomersLit_ok_fr0 (fr : Bool) (n : Nat) (g_ : SGrid) (bus_ : Int) (closed_ : List Int) {r : Int × Bool} (h : m_impl_CustomersLit n g_ bus_ closed_ = some r) : ACall prog fr 17 [.agg [.d (.cx .f32 g_.Feeder.Source.A.re g_.Feeder.Source.A.im), .d (.cx .f32 g_.Feeder.Source.B.re g_.Feeder.Source.B.im), .d (.cx .f32 g_.Feeder.Source.C.re g_.Feeder.Source.C.im), .d (.sl false (g_.Feeder.Buses.map eSBus)), .d (.sl false (g_.Ties.map eSTie))], .d (.int .i64 bus_), .d (.sl false (closed_.map eInti64))] [] (fun v o new => v = .tup [.d (.int .i64 r.1), .d (.bool r.2)] ∧ o = [] ∧ new = []) := by
  refine acall_of_aw hτ func17 rfl (by simp) (by simp) ?_
  unfold m_impl_CustomersLit at h
  refine aw_seq ?_
  refine aw_region ?_
  refine awl_valH hτ rfl rfl rfl ?_
  refine awl_val hτ rfl rfl rfl ?_
  refine awl_val hτ rfl rfl rfl ?_
  refine awl_nil ?_
  refine aw_seq ?_
  refine aw_seq ?_
  refine aw_region ?_
  refine awl_val hτ rfl rfl rfl ?_
  refine awl_val hτ rfl rfl rfl ?_
  refine bnd_elim h fun x4 hx4 h => ?_
  refine awl_callP hτ false [0] rfl rfl rfl (enterOk func38 rfl rfl) rfl rfl (by simp) ⟨trivial, trivial, trivial, trivial⟩ (by repeat' first | exact trivial | refine ⟨?_, ?_⟩) (impl_Grid_closing_ok n g_ bus_ closed_ hx4) ?_
  rintro r0 o0 n0 ⟨rfl, rfl, rfl⟩ -
  refine awl_val hτ rfl rfl rfl ?_
  refine awl_nil ?_
  refine aw_weak (weak_ofP [0] (l := [(1, .d (.int .i64 bus_)), (2, .d (.sl false (closed_.map eInti64))), (3, .ptr 0 0), (11, .d (.bool (!x4)))]) (objs := [.box [.d (.cx .f32 g_.Feeder.Source.A.re g_.Feeder.Source.A.im), .d (.cx .f32 g_.Feeder.Source.B.re g_.Feeder.Source.B.im), .d (.cx .f32 g_.Feeder.Source.C.re g_.Feeder.Source.C.im), .d (.sl false (g_.Feeder.Buses.map eSBus)), .d (.sl false (g_.Ties.map eSTie))]]) rfl (by simp) rfl (by repeat' first | exact trivial | refine ⟨?_, ?_⟩) ⟨rfl, trivial, rfl, trivial, rfl, trivial, rfl, trivial, trivial⟩) ?_
  refine aw_cond rfl (fun hc5 => ?_) (fun hc5 => ?_)
  · have hc5 := not_t hc5
    have h := if_bf h hc5
    refine aw_seq ?_
    refine aw_region ?_
    refine awl_val hτ rfl rfl rfl ?_
    refine awl_val hτ rfl rfl rfl ?_
    refine awl_nil ?_
    refine aw_weak (weak_ofP [] (l := [(6, .d (.int .i64 (0 : Int))), (7, .d (.bool false))]) (objs := []) rfl (by simp) rfl (by repeat' first | exact trivial | refine ⟨?_, ?_⟩) ⟨rfl, trivial, rfl, trivial, trivial⟩) ?_
    refine aw_ret ?_
    have hr := Option.some.inj h
    subst hr
    exact ret_objs (.inr rfl) [] (objs' := []) (new := []) rfl (by simp) (by simp) rfl (by repeat' first | exact trivial | refine ⟨?_, ?_⟩) rfl rfl (by repeat' first | exact trivial | refine ⟨?_, ?_⟩) (fun _ => ⟨by simp [V.flat, V.flatA, V.flatC, D.flat], flat_nil⟩) ⟨rfl, rfl, rfl⟩
  · have hc5 := not_f hc5
    have h := if_bt h hc5
    refine aw_skip ?_
    refine aw_seq ?_
    refine aw_region ?_
    refine awl_val hτ rfl rfl rfl ?_
    refine awl_val hτ rfl rfl rfl ?_
    refine bnd_elim h fun x6 hx6 h => ?_
    refine awl_callP hτ false [0] rfl rfl rfl (enterOk func43 rfl rfl) rfl rfl (by simp) ⟨trivial, trivial, trivial, trivial⟩ (by repeat' first | exact trivial | refine ⟨?_, ?_⟩) (impl_Grid_lit_ok n g_ bus_ closed_ hx6) ?_
    rintro r0 o0 n0 ⟨rfl, rfl, rfl⟩ -
    refine awl_val hτ rfl rfl rfl ?_
    refine awl_val hτ rfl rfl rfl ?_
    refine awl_nil ?_
    refine aw_weak (weak_ofP [] (l := [(6, .d (.int .i64 x6)), (7, .d (.bool true))]) (objs := []) rfl (by simp) rfl (by repeat' first | exact trivial | refine ⟨?_, ?_⟩) ⟨rfl, trivial, rfl, trivial, trivial⟩) ?_
    refine aw_ret ?_
    have hr := Option.some.inj h
    subst hr
    exact ret_objs (.inr rfl) [] (objs' := []) (new := []) rfl (by simp) (by simp) rfl (by repeat' first | exact trivial | refine ⟨?_, ?_⟩) rfl rfl (by repeat' first | exact trivial | refine ⟨?_, ?_⟩) (fun _ => ⟨by simp [V.flat, V.flatA, V.flatC, D.flat], flat_nil⟩) ⟨rfl, rfl, rfl⟩
theorem impl_CustomersLit_ok (n : Nat) (g_ : SGrid) (bus_ : Int) (closed_ : List Int) {r : Int × Bool} (h : m_impl_CustomersLit n g_ bus_ closed_ = some r) : ACall prog false 17 [.agg [.d (.cx .f32 g_.Feeder.Source.A.re g_.Feeder.Source.A.im), .d (.cx .f32 g_.Feeder.Source.B.re g_.Feeder.Source.B.im), .d (.cx .f32 g_.Feeder.Source.C.re g_.Feeder.Source.C.im), .d (.sl false (g_.Feeder.Buses.map eSBus)), .d (.sl false (g_.Ties.map eSTie))], .d (.int .i64 bus_), .d (.sl false (closed_.map eInti64))] [] (fun v o new => v = .tup [.d (.int .i64 r.1), .d (.bool r.2)] ∧ o = [] ∧ new = []) := impl_CustomersLit_ok_fr0 false n g_ bus_ closed_ h
theorem impl_CustomersLit_ok_fr (n : Nat) (g_ : SGrid) (bus_ : Int) (closed_ : List Int) {r : Int × Bool} (h : m_impl_CustomersLit n g_ bus_ closed_ = some r) : ACall prog true 17 [.agg [.d (.cx .f32 g_.Feeder.Source.A.re g_.Feeder.Source.A.im), .d (.cx .f32 g_.Feeder.Source.B.re g_.Feeder.Source.B.im), .d (.cx .f32 g_.Feeder.Source.C.re g_.Feeder.Source.C.im), .d (.sl false (g_.Feeder.Buses.map eSBus)), .d (.sl false (g_.Ties.map eSTie))], .d (.int .i64 bus_), .d (.sl false (closed_.map eInti64))] [] (fun v o new => v = .tup [.d (.int .i64 r.1), .d (.bool r.2)] ∧ o = [] ∧ new = []) := impl_CustomersLit_ok_fr0 true n g_ bus_ closed_ h

end Go.Proofs.YtkagbffdmppbhaaDoor.AWN
