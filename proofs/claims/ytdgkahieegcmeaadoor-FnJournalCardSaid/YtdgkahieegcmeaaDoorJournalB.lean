/- Models and contracts, printed by program. -/
import Derived.Test.YtdgkahieegcmeaaDoorJournalA
set_option linter.unusedVariables false
set_option linter.unusedSimpArgs false
set_option linter.unusedSectionVars false
set_option maxHeartbeats 2000000
namespace Go.Proofs.YtdgkahieegcmeaaDoor.AWN
open Go Go.Proofs.Tryd

def m_spec_l05Are_j2 (n : Nat) (k42 : Int → Option Bool) (v30 : Int) : Option Bool :=
  k42 (w64 (v30 + (1 : Int)))
def m_spec_l05Are_j3 (n : Nat) (k42 : Int → Option Bool) (v30 : Int) (v63 : Bool) : Option Bool :=
  if v63 = true then
    some false
  else
    m_spec_l05Are_j2 n k42 v30
def m_spec_l05Are_l1 (n : Nat) (f_ : SDesk) (taps_ : List STap) : Nat → Int → Option Bool
  | 0, _ => none
  | m41 + 1, v30 =>
    if v30 < (taps_.length : Int) then
      (getI taps_ v30).bind fun x66 =>
      (m_spec_l05Tap n x66).bind fun x67 =>
      if x67 = true then
        (m_spec_l00In n x66.Bus (1 : Int) (w64 ((f_.Feeder.Buses.length : Int) - (1 : Int)))).bind fun x69 =>
        if x69 = true then
          if v30 > (0 : Int) then
            (getI taps_ (w64 (v30 - (1 : Int)))).bind fun x72 =>
            m_spec_l05Are_j3 n (m_spec_l05Are_l1 n f_ taps_ m41) v30 (decide (x72.Bus ≥ x66.Bus))
          else
            m_spec_l05Are_j3 n (m_spec_l05Are_l1 n f_ taps_ m41) v30 false
        else
          m_spec_l05Are_j3 n (m_spec_l05Are_l1 n f_ taps_ m41) v30 true
      else
        m_spec_l05Are_j3 n (m_spec_l05Are_l1 n f_ taps_ m41) v30 true
    else
      some true
def m_spec_l05Are (n : Nat) (f_ : SDesk) (taps_ : List STap) : Option Bool :=
  m_spec_l05Are_l1 n f_ taps_ n (0 : Int)
theorem spec_l05Are_ok_fr0 (fr : Bool) (n : Nat) (f_ : SDesk) (taps_ : List STap) {r : Bool} (h : m_spec_l05Are n f_ taps_ = some r) : ACall prog fr 110 [.ptr 0 0, .d (.sl false (taps_.map eSTap))] [.box [.d (.cx .f32 f_.Feeder.Source.A.re f_.Feeder.Source.A.im), .d (.cx .f32 f_.Feeder.Source.B.re f_.Feeder.Source.B.im), .d (.cx .f32 f_.Feeder.Source.C.re f_.Feeder.Source.C.im), .row 1 f_.Feeder.Buses.length 0 f_.Feeder.Buses.length, .row 2 f_.Taps.length 0 f_.Taps.length, .row 3 f_.List.length 0 f_.List.length], .row 8 (f_.Feeder.Buses.map eSBus), .row 5 (f_.Taps.map eSTap), .row 3 (f_.List.map eSOutage)] (fun v o new => v = .d (.bool r) ∧ o = [.box [.d (.cx .f32 f_.Feeder.Source.A.re f_.Feeder.Source.A.im), .d (.cx .f32 f_.Feeder.Source.B.re f_.Feeder.Source.B.im), .d (.cx .f32 f_.Feeder.Source.C.re f_.Feeder.Source.C.im), .row 1 f_.Feeder.Buses.length 0 f_.Feeder.Buses.length, .row 2 f_.Taps.length 0 f_.Taps.length, .row 3 f_.List.length 0 f_.List.length], .row 8 (f_.Feeder.Buses.map eSBus), .row 5 (f_.Taps.map eSTap), .row 3 (f_.List.map eSOutage)] ∧ new = []) := by
  refine acall_of_aw hτ func110 rfl (by simp) (by simp) ?_
  unfold m_spec_l05Are at h
  refine aw_seq ?_
  refine aw_region ?_
  refine awl_val hτ rfl rfl rfl ?_
  refine awl_nil ?_
  refine aw_seq ?_
  refine aw_seq ?_
  refine aw_region ?_
  refine awl_val hτ rfl rfl rfl ?_
  refine awl_val hτ (v := .d (.int .i64 (taps_.length : Int))) rfl rfl (Eq.trans rfl (or_len (f := eSTap) taps_)) ?_
  refine awl_val hτ rfl rfl rfl ?_
  refine awl_nil ?_
  refine aw_block ?_
  refine aw_loop (ι := Nat × Int) (fun (m41, v30) => St.of [(0, .ptr 0 0), (1, .d (.sl false (taps_.map eSTap))), (7, .d (.int .i64 (taps_.length : Int))), (8, .d (.int .i64 v30))] [.box [.d (.cx .f32 f_.Feeder.Source.A.re f_.Feeder.Source.A.im), .d (.cx .f32 f_.Feeder.Source.B.re f_.Feeder.Source.B.im), .d (.cx .f32 f_.Feeder.Source.C.re f_.Feeder.Source.C.im), .row 1 f_.Feeder.Buses.length 0 f_.Feeder.Buses.length, .row 2 f_.Taps.length 0 f_.Taps.length, .row 3 f_.List.length 0 f_.List.length], .row 8 (f_.Feeder.Buses.map eSBus), .row 5 (f_.Taps.map eSTap), .row 3 (f_.List.map eSOutage)] f110.ntmps 4) (fun (m41, v30) => m_spec_l05Are_l1 n f_ taps_ m41 v30 = some r) (fun x => x.1) (n, (0 : Int)) h (weak_ofP [0, 1, 2, 3] (l := [(0, .ptr 0 0), (1, .d (.sl false (taps_.map eSTap))), (7, .d (.int .i64 (taps_.length : Int))), (8, .d (.int .i64 (0 : Int)))]) (objs := [.box [.d (.cx .f32 f_.Feeder.Source.A.re f_.Feeder.Source.A.im), .d (.cx .f32 f_.Feeder.Source.B.re f_.Feeder.Source.B.im), .d (.cx .f32 f_.Feeder.Source.C.re f_.Feeder.Source.C.im), .row 1 f_.Feeder.Buses.length 0 f_.Feeder.Buses.length, .row 2 f_.Taps.length 0 f_.Taps.length, .row 3 f_.List.length 0 f_.List.length], .row 8 (f_.Feeder.Buses.map eSBus), .row 5 (f_.Taps.map eSTap), .row 3 (f_.List.map eSOutage)]) rfl (by simp) rfl (by repeat' first | exact trivial | refine ⟨?_, ?_⟩) ⟨rfl, trivial, rfl, trivial, rfl, trivial, rfl, trivial, trivial⟩) ?_
  rintro ⟨m41, v30⟩ h
  replace h : m_spec_l05Are_l1 n f_ taps_ m41 v30 = some r := h
  rcases m41 with _ | m41
  · rw [m_spec_l05Are_l1] at h; cases h
  rw [m_spec_l05Are_l1] at h
  refine aw_seq ?_
  refine aw_region ?_
  refine awl_val hτ rfl rfl rfl ?_
  refine awl_nil ?_
  refine aw_seq ?_
  refine aw_cond rfl (fun hc43 => ?_) (fun hc43 => ?_)
  · have h := if_t h hc43
    refine aw_skip ?_
    refine aw_hk1 (ι := Unit) (fun _ => St.of [(0, .ptr 0 0), (1, .d (.sl false (taps_.map eSTap))), (7, .d (.int .i64 (taps_.length : Int))), (8, .d (.int .i64 v30))] [.box [.d (.cx .f32 f_.Feeder.Source.A.re f_.Feeder.Source.A.im), .d (.cx .f32 f_.Feeder.Source.B.re f_.Feeder.Source.B.im), .d (.cx .f32 f_.Feeder.Source.C.re f_.Feeder.Source.C.im), .row 1 f_.Feeder.Buses.length 0 f_.Feeder.Buses.length, .row 2 f_.Taps.length 0 f_.Taps.length, .row 3 f_.List.length 0 f_.List.length], .row 8 (f_.Feeder.Buses.map eSBus), .row 5 (f_.Taps.map eSTap), .row 3 (f_.List.map eSOutage)] f110.ntmps 4) (fun _ => m_spec_l05Are_j2 n (m_spec_l05Are_l1 n f_ taps_ m41) v30 = some r) ?_ (fun hk53 => ?_)
    · rintro ⟨⟩ h
      replace h : m_spec_l05Are_j2 n (m_spec_l05Are_l1 n f_ taps_ m41) v30 = some r := h
      unfold m_spec_l05Are_j2 at h
      refine aw_region ?_
      refine awl_val hτ rfl rfl rfl ?_
      refine awl_val hτ rfl rfl rfl ?_
      refine awl_nil ?_
      exact ⟨(m41, (w64 (v30 + (1 : Int)))), h, Nat.lt_succ_self m41, (weak_ofP [0, 1, 2, 3] (l := [(0, .ptr 0 0), (1, .d (.sl false (taps_.map eSTap))), (7, .d (.int .i64 (taps_.length : Int))), (8, .d (.int .i64 (w64 (v30 + (1 : Int)))))]) (objs := [.box [.d (.cx .f32 f_.Feeder.Source.A.re f_.Feeder.Source.A.im), .d (.cx .f32 f_.Feeder.Source.B.re f_.Feeder.Source.B.im), .d (.cx .f32 f_.Feeder.Source.C.re f_.Feeder.Source.C.im), .row 1 f_.Feeder.Buses.length 0 f_.Feeder.Buses.length, .row 2 f_.Taps.length 0 f_.Taps.length, .row 3 f_.List.length 0 f_.List.length], .row 8 (f_.Feeder.Buses.map eSBus), .row 5 (f_.Taps.map eSTap), .row 3 (f_.List.map eSOutage)]) rfl (by simp) rfl (by repeat' first | exact trivial | refine ⟨?_, ?_⟩) ⟨rfl, trivial, rfl, trivial, rfl, trivial, rfl, trivial, trivial⟩)⟩
    · refine aw_seq ?_
      refine aw_block ?_
      refine aw_seq ?_
      refine aw_region ?_
      refine awl_val hτ rfl rfl rfl ?_
      refine awl_val hτ rfl rfl rfl ?_
      refine awl_nil ?_
      refine aw_hk1 (ι := Bool) (fun v63 => St.of [(0, .ptr 0 0), (1, .d (.sl false (taps_.map eSTap))), (7, .d (.int .i64 (taps_.length : Int))), (8, .d (.int .i64 v30)), (48, .d (.bool v63))] [.box [.d (.cx .f32 f_.Feeder.Source.A.re f_.Feeder.Source.A.im), .d (.cx .f32 f_.Feeder.Source.B.re f_.Feeder.Source.B.im), .d (.cx .f32 f_.Feeder.Source.C.re f_.Feeder.Source.C.im), .row 1 f_.Feeder.Buses.length 0 f_.Feeder.Buses.length, .row 2 f_.Taps.length 0 f_.Taps.length, .row 3 f_.List.length 0 f_.List.length], .row 8 (f_.Feeder.Buses.map eSBus), .row 5 (f_.Taps.map eSTap), .row 3 (f_.List.map eSOutage)] f110.ntmps 4) (fun v63 => m_spec_l05Are_j3 n (m_spec_l05Are_l1 n f_ taps_ m41) v30 v63 = some r) ?_ (fun hk65 => ?_)
      · rintro v63 h
        replace h : m_spec_l05Are_j3 n (m_spec_l05Are_l1 n f_ taps_ m41) v30 v63 = some r := h
        unfold m_spec_l05Are_j3 at h
        refine aw_cond rfl (fun hc64 => ?_) (fun hc64 => ?_)
        · have h := if_bt h hc64
          refine aw_seq ?_
          refine aw_region ?_
          refine awl_val hτ rfl rfl rfl ?_
          refine awl_nil ?_
          refine aw_weak (weak_ofP [0, 1, 2, 3] (l := [(4, .d (.bool false))]) (objs := [.box [.d (.cx .f32 f_.Feeder.Source.A.re f_.Feeder.Source.A.im), .d (.cx .f32 f_.Feeder.Source.B.re f_.Feeder.Source.B.im), .d (.cx .f32 f_.Feeder.Source.C.re f_.Feeder.Source.C.im), .row 1 f_.Feeder.Buses.length 0 f_.Feeder.Buses.length, .row 2 f_.Taps.length 0 f_.Taps.length, .row 3 f_.List.length 0 f_.List.length], .row 8 (f_.Feeder.Buses.map eSBus), .row 5 (f_.Taps.map eSTap), .row 3 (f_.List.map eSOutage)]) rfl (by simp) rfl (by repeat' first | exact trivial | refine ⟨?_, ?_⟩) ⟨rfl, trivial, trivial⟩) ?_
          refine aw_ret ?_
          have hr := Option.some.inj h
          subst hr
          exact ret_objs (.inr rfl) [] (objs' := [.box [.d (.cx .f32 f_.Feeder.Source.A.re f_.Feeder.Source.A.im), .d (.cx .f32 f_.Feeder.Source.B.re f_.Feeder.Source.B.im), .d (.cx .f32 f_.Feeder.Source.C.re f_.Feeder.Source.C.im), .row 1 f_.Feeder.Buses.length 0 f_.Feeder.Buses.length, .row 2 f_.Taps.length 0 f_.Taps.length, .row 3 f_.List.length 0 f_.List.length], .row 8 (f_.Feeder.Buses.map eSBus), .row 5 (f_.Taps.map eSTap), .row 3 (f_.List.map eSOutage)]) (new := []) rfl (by simp) (by simp) rfl (by repeat' first | exact trivial | refine ⟨?_, ?_⟩) rfl rfl (by repeat' first | exact trivial | refine ⟨?_, ?_⟩) (fun _ => ⟨by simp [V.flat, V.flatA, V.flatC, D.flat], (flat_cons (by simp [AObj.flat, V.flatC, D.flat]) (flat_cons (flat_row eSBus_flat _) (flat_cons (flat_row eSTap_flat _) (flat_cons (flat_row eSOutage_flat _) flat_nil))))⟩) ⟨rfl, rfl, rfl⟩
        · have h := if_bf h hc64
          refine aw_skip ?_
          refine aw_weak (weak_ofP [0, 1, 2, 3] (l := [(0, .ptr 0 0), (1, .d (.sl false (taps_.map eSTap))), (7, .d (.int .i64 (taps_.length : Int))), (8, .d (.int .i64 v30))]) (objs := [.box [.d (.cx .f32 f_.Feeder.Source.A.re f_.Feeder.Source.A.im), .d (.cx .f32 f_.Feeder.Source.B.re f_.Feeder.Source.B.im), .d (.cx .f32 f_.Feeder.Source.C.re f_.Feeder.Source.C.im), .row 1 f_.Feeder.Buses.length 0 f_.Feeder.Buses.length, .row 2 f_.Taps.length 0 f_.Taps.length, .row 3 f_.List.length 0 f_.List.length], .row 8 (f_.Feeder.Buses.map eSBus), .row 5 (f_.Taps.map eSTap), .row 3 (f_.List.map eSOutage)]) rfl (by simp) rfl (by repeat' first | exact trivial | refine ⟨?_, ?_⟩) ⟨rfl, trivial, rfl, trivial, rfl, trivial, rfl, trivial, trivial⟩) ?_
          exact hk53 () h
      · refine aw_seq ?_
        refine any_start ?_
        refine any_val hτ [] 0 rfl rfl rfl rfl rfl ?_
        refine any_val hτ [] 1 rfl rfl rfl rfl rfl ?_
        refine bnd_elim h fun x66 hx66 h => ?_
        refine any_elem hτ [] 2 rfl rfl rfl rfl rfl (getI_some hx66).1 (map_getI hx66) rfl ?_
        refine bnd_elim h fun x67 hx67 h => ?_
        refine any_callP hτ false [] [0, 1, 2, 3] 3 rfl rfl rfl rfl (enterOk func127 rfl rfl) rfl rfl (by simp) ⟨trivial, trivial⟩ (by repeat' first | exact trivial | refine ⟨?_, ?_⟩) (spec_l05Tap_ok n x66 hx67) ⟨rfl, rfl, rfl, rfl, trivial⟩ ?_
        refine any_val hτ [] 4 rfl rfl rfl rfl rfl ?_
        refine any_val hτ [] 5 rfl rfl rfl rfl rfl ?_
        refine any_split 16 rfl (fun hb68 => ?_) (fun hb68 => ?_)
        · have hb68 := not_t hb68
          have h := if_bf h hb68
          refine any_skip 6 rfl rfl rfl ?_
          refine any_skip 7 rfl rfl rfl ?_
          refine any_skip 8 rfl rfl rfl ?_
          refine any_skip 9 rfl rfl rfl ?_
          refine any_skip 10 rfl rfl rfl ?_
          refine any_skip 11 rfl rfl rfl ?_
          refine any_skip 12 rfl rfl rfl ?_
          refine any_skip 13 rfl rfl rfl ?_
          refine any_skip 14 rfl rfl rfl ?_
          refine any_skip 15 rfl rfl rfl ?_
          refine any_skip 16 rfl rfl rfl ?_
          refine any_skip 17 rfl rfl rfl ?_
          refine any_skip 18 rfl rfl rfl ?_
          refine any_val hτ [] 19 rfl rfl rfl rfl rfl ?_
          refine any_val hτ [] 20 rfl rfl rfl rfl rfl ?_
          refine any_skip 21 rfl rfl rfl ?_
          refine any_skip 22 rfl rfl rfl ?_
          refine any_skip 23 rfl rfl rfl ?_
          refine any_skip 24 rfl rfl rfl ?_
          refine any_skip 25 rfl rfl rfl ?_
          refine any_skip 26 rfl rfl rfl ?_
          refine any_skip 27 rfl rfl rfl ?_
          refine any_skip 28 rfl rfl rfl ?_
          refine any_skip 29 rfl rfl rfl ?_
          refine any_skip 30 rfl rfl rfl ?_
          refine any_skip 31 rfl rfl rfl ?_
          refine any_skip 32 rfl rfl rfl ?_
          refine any_skip 33 rfl rfl rfl ?_
          refine any_skip 34 rfl rfl rfl ?_
          refine any_skip 35 rfl rfl rfl ?_
          refine any_skip 36 rfl rfl rfl ?_
          refine any_val hτ [] 37 rfl rfl rfl rfl rfl ?_
          refine any_done mixed (by kernel_rfl) ?_
          refine aw_weak (weak_ofP [0, 1, 2, 3] (l := [(0, .ptr 0 0), (1, .d (.sl false (taps_.map eSTap))), (7, .d (.int .i64 (taps_.length : Int))), (8, .d (.int .i64 v30)), (48, .d (.bool true))]) (objs := [.box [.d (.cx .f32 f_.Feeder.Source.A.re f_.Feeder.Source.A.im), .d (.cx .f32 f_.Feeder.Source.B.re f_.Feeder.Source.B.im), .d (.cx .f32 f_.Feeder.Source.C.re f_.Feeder.Source.C.im), .row 1 f_.Feeder.Buses.length 0 f_.Feeder.Buses.length, .row 2 f_.Taps.length 0 f_.Taps.length, .row 3 f_.List.length 0 f_.List.length], .row 8 (f_.Feeder.Buses.map eSBus), .row 5 (f_.Taps.map eSTap), .row 3 (f_.List.map eSOutage)]) rfl (by simp) rfl (by repeat' first | exact trivial | refine ⟨?_, ?_⟩) ⟨rfl, trivial, rfl, trivial, rfl, trivial, rfl, trivial, rfl, trivial, trivial⟩) ?_
          exact hk65 true h
        · have hb68 := not_f hb68
          have h := if_bt h hb68
          refine any_val hτ [] 6 rfl rfl rfl rfl rfl ?_
          refine any_val hτ [] 7 rfl rfl rfl rfl rfl ?_
          refine any_elem hτ [] 8 rfl rfl rfl rfl rfl (getI_some hx66).1 (map_getI hx66) rfl ?_
          refine any_val hτ [] 9 rfl rfl rfl rfl rfl ?_
          refine any_val hτ [] 10 rfl rfl rfl rfl rfl ?_
          refine any_val hτ [] 11 rfl rfl rfl rfl rfl ?_
          refine any_val hτ [] 12 rfl rfl rfl rfl rfl ?_
          refine any_val hτ [0] 13 rfl rfl rfl rfl rfl ?_
          refine any_val hτ [0] 14 rfl rfl rfl rfl rfl ?_
          refine any_need hτ [1] 15 rfl rfl rfl rfl rfl (len_map _) ?_
          refine any_val hτ [] 16 rfl rfl rfl rfl rfl ?_
          refine bnd_elim h fun x69 hx69 h => ?_
          refine any_callP hτ false [] [0, 1, 2, 3] 17 rfl rfl rfl rfl (enterOk func128 rfl rfl) rfl rfl (by simp) ⟨trivial, trivial, trivial, trivial⟩ (by repeat' first | exact trivial | refine ⟨?_, ?_⟩) (spec_l00In_ok n x66.Bus (1 : Int) (w64 ((f_.Feeder.Buses.length : Int) - (1 : Int))) hx69) ⟨rfl, rfl, rfl, rfl, trivial⟩ ?_
          refine any_val hτ [] 18 rfl rfl rfl rfl rfl ?_
          refine any_val hτ [] 19 rfl rfl rfl rfl rfl ?_
          refine any_val hτ [] 20 rfl rfl rfl rfl rfl ?_
          refine any_split 31 rfl (fun hb70 => ?_) (fun hb70 => ?_)
          · have hb70 := not_t hb70
            have h := if_bf h hb70
            refine any_skip 21 rfl rfl rfl ?_
            refine any_skip 22 rfl rfl rfl ?_
            refine any_skip 23 rfl rfl rfl ?_
            refine any_skip 24 rfl rfl rfl ?_
            refine any_skip 25 rfl rfl rfl ?_
            refine any_skip 26 rfl rfl rfl ?_
            refine any_skip 27 rfl rfl rfl ?_
            refine any_skip 28 rfl rfl rfl ?_
            refine any_skip 29 rfl rfl rfl ?_
            refine any_skip 30 rfl rfl rfl ?_
            refine any_skip 31 rfl rfl rfl ?_
            refine any_skip 32 rfl rfl rfl ?_
            refine any_skip 33 rfl rfl rfl ?_
            refine any_skip 34 rfl rfl rfl ?_
            refine any_skip 35 rfl rfl rfl ?_
            refine any_skip 36 rfl rfl rfl ?_
            refine any_val hτ [] 37 rfl rfl rfl rfl rfl ?_
            refine any_done mixed (by kernel_rfl) ?_
            refine aw_weak (weak_ofP [0, 1, 2, 3] (l := [(0, .ptr 0 0), (1, .d (.sl false (taps_.map eSTap))), (7, .d (.int .i64 (taps_.length : Int))), (8, .d (.int .i64 v30)), (48, .d (.bool true))]) (objs := [.box [.d (.cx .f32 f_.Feeder.Source.A.re f_.Feeder.Source.A.im), .d (.cx .f32 f_.Feeder.Source.B.re f_.Feeder.Source.B.im), .d (.cx .f32 f_.Feeder.Source.C.re f_.Feeder.Source.C.im), .row 1 f_.Feeder.Buses.length 0 f_.Feeder.Buses.length, .row 2 f_.Taps.length 0 f_.Taps.length, .row 3 f_.List.length 0 f_.List.length], .row 8 (f_.Feeder.Buses.map eSBus), .row 5 (f_.Taps.map eSTap), .row 3 (f_.List.map eSOutage)]) rfl (by simp) rfl (by repeat' first | exact trivial | refine ⟨?_, ?_⟩) ⟨rfl, trivial, rfl, trivial, rfl, trivial, rfl, trivial, rfl, trivial, trivial⟩) ?_
            exact hk65 true h
          · have hb70 := not_f hb70
            have h := if_bt h hb70
            refine any_val hτ [] 21 rfl rfl rfl rfl rfl ?_
            refine any_val hτ [] 22 rfl rfl rfl rfl rfl ?_
            refine any_val hτ [] 23 rfl rfl rfl rfl rfl ?_
            refine any_split 34 rfl (fun hb71 => ?_) (fun hb71 => ?_)
            · have h := if_t h hb71
              refine any_val hτ [] 24 rfl rfl rfl rfl rfl ?_
              refine any_val hτ [] 25 rfl rfl rfl rfl rfl ?_
              refine any_val hτ [] 26 rfl rfl rfl rfl rfl ?_
              refine bnd_elim h fun x72 hx72 h => ?_
              refine any_elem hτ [] 27 rfl rfl rfl rfl rfl (getI_some hx72).1 (map_getI hx72) rfl ?_
              refine any_val hτ [] 28 rfl rfl rfl rfl rfl ?_
              refine any_val hτ [] 29 rfl rfl rfl rfl rfl ?_
              refine any_val hτ [] 30 rfl rfl rfl rfl rfl ?_
              refine any_val hτ [] 31 rfl rfl rfl rfl rfl ?_
              refine any_elem hτ [] 32 rfl rfl rfl rfl rfl (getI_some hx66).1 (map_getI hx66) rfl ?_
              refine any_val hτ [] 33 rfl rfl rfl rfl rfl ?_
              refine any_val hτ [] 34 rfl rfl rfl rfl rfl ?_
              refine any_val hτ [] 35 rfl rfl rfl rfl rfl ?_
              refine any_val hτ [] 36 rfl rfl rfl rfl rfl ?_
              refine any_val hτ [] 37 rfl rfl rfl rfl rfl ?_
              refine any_done mixed (by kernel_rfl) ?_
              refine aw_weak (weak_ofP [0, 1, 2, 3] (l := [(0, .ptr 0 0), (1, .d (.sl false (taps_.map eSTap))), (7, .d (.int .i64 (taps_.length : Int))), (8, .d (.int .i64 v30)), (48, .d (.bool (decide (x72.Bus ≥ x66.Bus))))]) (objs := [.box [.d (.cx .f32 f_.Feeder.Source.A.re f_.Feeder.Source.A.im), .d (.cx .f32 f_.Feeder.Source.B.re f_.Feeder.Source.B.im), .d (.cx .f32 f_.Feeder.Source.C.re f_.Feeder.Source.C.im), .row 1 f_.Feeder.Buses.length 0 f_.Feeder.Buses.length, .row 2 f_.Taps.length 0 f_.Taps.length, .row 3 f_.List.length 0 f_.List.length], .row 8 (f_.Feeder.Buses.map eSBus), .row 5 (f_.Taps.map eSTap), .row 3 (f_.List.map eSOutage)]) rfl (by simp) rfl (by repeat' first | exact trivial | refine ⟨?_, ?_⟩) ⟨rfl, trivial, rfl, trivial, rfl, trivial, rfl, trivial, rfl, trivial, trivial⟩) ?_
              exact hk65 (decide (x72.Bus ≥ x66.Bus)) h
            · have h := if_f h hb71
              refine any_skip 24 rfl rfl rfl ?_
              refine any_skip 25 rfl rfl rfl ?_
              refine any_skip 26 rfl rfl rfl ?_
              refine any_skip 27 rfl rfl rfl ?_
              refine any_skip 28 rfl rfl rfl ?_
              refine any_skip 29 rfl rfl rfl ?_
              refine any_skip 30 rfl rfl rfl ?_
              refine any_skip 31 rfl rfl rfl ?_
              refine any_skip 32 rfl rfl rfl ?_
              refine any_skip 33 rfl rfl rfl ?_
              refine any_skip 34 rfl rfl rfl ?_
              refine any_skip 35 rfl rfl rfl ?_
              refine any_val hτ [] 36 rfl rfl rfl rfl rfl ?_
              refine any_val hτ [] 37 rfl rfl rfl rfl rfl ?_
              refine any_done mixed (by kernel_rfl) ?_
              refine aw_weak (weak_ofP [0, 1, 2, 3] (l := [(0, .ptr 0 0), (1, .d (.sl false (taps_.map eSTap))), (7, .d (.int .i64 (taps_.length : Int))), (8, .d (.int .i64 v30)), (48, .d (.bool false))]) (objs := [.box [.d (.cx .f32 f_.Feeder.Source.A.re f_.Feeder.Source.A.im), .d (.cx .f32 f_.Feeder.Source.B.re f_.Feeder.Source.B.im), .d (.cx .f32 f_.Feeder.Source.C.re f_.Feeder.Source.C.im), .row 1 f_.Feeder.Buses.length 0 f_.Feeder.Buses.length, .row 2 f_.Taps.length 0 f_.Taps.length, .row 3 f_.List.length 0 f_.List.length], .row 8 (f_.Feeder.Buses.map eSBus), .row 5 (f_.Taps.map eSTap), .row 3 (f_.List.map eSOutage)]) rfl (by simp) rfl (by repeat' first | exact trivial | refine ⟨?_, ?_⟩) ⟨rfl, trivial, rfl, trivial, rfl, trivial, rfl, trivial, rfl, trivial, trivial⟩) ?_
              exact hk65 false h
  · have h := if_f h hc43
    refine aw_exit ?_
    refine aw_seq ?_
    refine aw_region ?_
    refine awl_val hτ rfl rfl rfl ?_
    refine awl_nil ?_
    refine aw_weak (weak_ofP [0, 1, 2, 3] (l := [(4, .d (.bool true))]) (objs := [.box [.d (.cx .f32 f_.Feeder.Source.A.re f_.Feeder.Source.A.im), .d (.cx .f32 f_.Feeder.Source.B.re f_.Feeder.Source.B.im), .d (.cx .f32 f_.Feeder.Source.C.re f_.Feeder.Source.C.im), .row 1 f_.Feeder.Buses.length 0 f_.Feeder.Buses.length, .row 2 f_.Taps.length 0 f_.Taps.length, .row 3 f_.List.length 0 f_.List.length], .row 8 (f_.Feeder.Buses.map eSBus), .row 5 (f_.Taps.map eSTap), .row 3 (f_.List.map eSOutage)]) rfl (by simp) rfl (by repeat' first | exact trivial | refine ⟨?_, ?_⟩) ⟨rfl, trivial, trivial⟩) ?_
    refine aw_ret ?_
    have hr := Option.some.inj h
    subst hr
    exact ret_objs (.inr rfl) [] (objs' := [.box [.d (.cx .f32 f_.Feeder.Source.A.re f_.Feeder.Source.A.im), .d (.cx .f32 f_.Feeder.Source.B.re f_.Feeder.Source.B.im), .d (.cx .f32 f_.Feeder.Source.C.re f_.Feeder.Source.C.im), .row 1 f_.Feeder.Buses.length 0 f_.Feeder.Buses.length, .row 2 f_.Taps.length 0 f_.Taps.length, .row 3 f_.List.length 0 f_.List.length], .row 8 (f_.Feeder.Buses.map eSBus), .row 5 (f_.Taps.map eSTap), .row 3 (f_.List.map eSOutage)]) (new := []) rfl (by simp) (by simp) rfl (by repeat' first | exact trivial | refine ⟨?_, ?_⟩) rfl rfl (by repeat' first | exact trivial | refine ⟨?_, ?_⟩) (fun _ => ⟨by simp [V.flat, V.flatA, V.flatC, D.flat], (flat_cons (by simp [AObj.flat, V.flatC, D.flat]) (flat_cons (flat_row eSBus_flat _) (flat_cons (flat_row eSTap_flat _) (flat_cons (flat_row eSOutage_flat _) flat_nil))))⟩) ⟨rfl, rfl, rfl⟩
theorem spec_l05Are_ok (n : Nat) (f_ : SDesk) (taps_ : List STap) {r : Bool} (h : m_spec_l05Are n f_ taps_ = some r) : ACall prog false 110 [.ptr 0 0, .d (.sl false (taps_.map eSTap))] [.box [.d (.cx .f32 f_.Feeder.Source.A.re f_.Feeder.Source.A.im), .d (.cx .f32 f_.Feeder.Source.B.re f_.Feeder.Source.B.im), .d (.cx .f32 f_.Feeder.Source.C.re f_.Feeder.Source.C.im), .row 1 f_.Feeder.Buses.length 0 f_.Feeder.Buses.length, .row 2 f_.Taps.length 0 f_.Taps.length, .row 3 f_.List.length 0 f_.List.length], .row 8 (f_.Feeder.Buses.map eSBus), .row 5 (f_.Taps.map eSTap), .row 3 (f_.List.map eSOutage)] (fun v o new => v = .d (.bool r) ∧ o = [.box [.d (.cx .f32 f_.Feeder.Source.A.re f_.Feeder.Source.A.im), .d (.cx .f32 f_.Feeder.Source.B.re f_.Feeder.Source.B.im), .d (.cx .f32 f_.Feeder.Source.C.re f_.Feeder.Source.C.im), .row 1 f_.Feeder.Buses.length 0 f_.Feeder.Buses.length, .row 2 f_.Taps.length 0 f_.Taps.length, .row 3 f_.List.length 0 f_.List.length], .row 8 (f_.Feeder.Buses.map eSBus), .row 5 (f_.Taps.map eSTap), .row 3 (f_.List.map eSOutage)] ∧ new = []) := spec_l05Are_ok_fr0 false n f_ taps_ h
theorem spec_l05Are_ok_fr (n : Nat) (f_ : SDesk) (taps_ : List STap) {r : Bool} (h : m_spec_l05Are n f_ taps_ = some r) : ACall prog true 110 [.ptr 0 0, .d (.sl false (taps_.map eSTap))] [.box [.d (.cx .f32 f_.Feeder.Source.A.re f_.Feeder.Source.A.im), .d (.cx .f32 f_.Feeder.Source.B.re f_.Feeder.Source.B.im), .d (.cx .f32 f_.Feeder.Source.C.re f_.Feeder.Source.C.im), .row 1 f_.Feeder.Buses.length 0 f_.Feeder.Buses.length, .row 2 f_.Taps.length 0 f_.Taps.length, .row 3 f_.List.length 0 f_.List.length], .row 8 (f_.Feeder.Buses.map eSBus), .row 5 (f_.Taps.map eSTap), .row 3 (f_.List.map eSOutage)] (fun v o new => v = .d (.bool r) ∧ o = [.box [.d (.cx .f32 f_.Feeder.Source.A.re f_.Feeder.Source.A.im), .d (.cx .f32 f_.Feeder.Source.B.re f_.Feeder.Source.B.im), .d (.cx .f32 f_.Feeder.Source.C.re f_.Feeder.Source.C.im), .row 1 f_.Feeder.Buses.length 0 f_.Feeder.Buses.length, .row 2 f_.Taps.length 0 f_.Taps.length, .row 3 f_.List.length 0 f_.List.length], .row 8 (f_.Feeder.Buses.map eSBus), .row 5 (f_.Taps.map eSTap), .row 3 (f_.List.map eSOutage)] ∧ new = []) := spec_l05Are_ok_fr0 true n f_ taps_ h

def m_spec_l09DrawOutages_j3 (n : Nat) (k119 : List Int → Int → Int → List SOutage → Int → Option (List SOutage × SL00Src)) (v89 : Int) (v144 : List Int) (v145 : Int) (v146 : Int) (v147 : List SOutage) : Option (List SOutage × SL00Src) :=
  k119 v144 v145 v146 v147 (w64 (v89 - (1 : Int)))
def m_spec_l09DrawOutages_j4 (n : Nat) (k119 : List Int → Int → Int → List SOutage → Int → Option (List SOutage × SL00Src)) (v88 : List SOutage) (v89 : Int) (v171 : List Int) (v172 : Int) (v173 : Int) (v174 : Int) (v175 : Int) (v176 : Int) : Option (List SOutage × SL00Src) :=
  grd (room (v88.length + 1) 24) <|
  m_spec_l09DrawOutages_j3 n k119 v89 v171 v172 v173 (v88 ++ [(SOutage.mk v174 v175 v176)])
def m_spec_l09DrawOutages_l2 (n : Nat) (f_ : SDesk) : Nat → List Int → Int → Int → List SOutage → Int → Option (List SOutage × SL00Src)
  | 0, _, _, _, _, _ => none
  | m118 + 1, v85, v86, v87, v88, v89 =>
    if v89 > (0 : Int) then
      (m_spec_l00Src_pick n (SL00Src.mk v85 v86 v87) (w64 ((f_.Feeder.Buses.length : Int) - (1 : Int)))).bind fun x149 =>
      (m_spec_l00Src_pick n x149.2 (20 : Int)).bind fun x150 =>
      (m_spec_l00Src_pick n x150.2 (10 : Int)).bind fun x151 =>
      (m_spec_l00Src_pick n x151.2 (40 : Int)).bind fun x179 =>
      if x179.1 = (0 : Int) then
        (m_spec_l00Src_among n x179.2 [(-1 : Int), (0 : Int), (16 : Int)]).bind fun x181 =>
        m_spec_l09DrawOutages_j4 n (m_spec_l09DrawOutages_l2 n f_ m118) v88 v89 x181.2.code x181.2.at_ x181.2.seed x181.1 x150.1 (w64 ((w64 (x150.1 + (1 : Int))) + x151.1))
      else
        if x179.1 = (1 : Int) then
          (m_spec_l00Src_among n x179.2 [(0 : Int), x150.1, (100000 : Int), (100001 : Int)]).bind fun x183 =>
          m_spec_l09DrawOutages_j4 n (m_spec_l09DrawOutages_l2 n f_ m118) v88 v89 x183.2.code x183.2.at_ x183.2.seed (w64 ((1 : Int) + x149.1)) x150.1 x183.1
        else
          if x179.1 = (2 : Int) then
            (m_spec_l00Src_among n x179.2 [(-1 : Int), (-9223372036854775808 : Int)]).bind fun x185 =>
            m_spec_l09DrawOutages_j4 n (m_spec_l09DrawOutages_l2 n f_ m118) v88 v89 x185.2.code x185.2.at_ x185.2.seed (w64 ((1 : Int) + x149.1)) x185.1 (w64 ((w64 (x150.1 + (1 : Int))) + x151.1))
          else
            m_spec_l09DrawOutages_j4 n (m_spec_l09DrawOutages_l2 n f_ m118) v88 v89 x179.2.code x179.2.at_ x179.2.seed (w64 ((1 : Int) + x149.1)) x150.1 (w64 ((w64 (x150.1 + (1 : Int))) + x151.1))
    else
      some (v88, (SL00Src.mk v85 v86 v87))
def m_spec_l09DrawOutages_j1 (n : Nat) (f_ : SDesk) (x59 : Int × SL00Src) (v61 : Int) : Option (List SOutage × SL00Src) :=
  m_spec_l09DrawOutages_l2 n f_ n x59.2.code x59.2.at_ x59.2.seed ([] : List SOutage) v61
def m_spec_l09DrawOutages (n : Nat) (s_ : SL00Src) (f_ : SDesk) : Option (List SOutage × SL00Src) :=
  (m_spec_l00Src_pick n s_ (5 : Int)).bind fun x59 =>
  if (f_.Feeder.Buses.length : Int) < (2 : Int) then
    m_spec_l09DrawOutages_j1 n f_ x59 (0 : Int)
  else
    m_spec_l09DrawOutages_j1 n f_ x59 x59.1
theorem spec_l09DrawOutages_ok (n : Nat) (s_ : SL00Src) (f_ : SDesk) {r : List SOutage × SL00Src} (h : m_spec_l09DrawOutages n s_ f_ = some r) : ACall prog false 111 [.ptr 0 0, .ptr 1 0] [.box [.d (.sl false (s_.code.map eIntu8)), .d (.int .i64 s_.at_), .d (.int .u64 s_.seed)], .box [.d (.cx .f32 f_.Feeder.Source.A.re f_.Feeder.Source.A.im), .d (.cx .f32 f_.Feeder.Source.B.re f_.Feeder.Source.B.im), .d (.cx .f32 f_.Feeder.Source.C.re f_.Feeder.Source.C.im), .row 2 f_.Feeder.Buses.length 0 f_.Feeder.Buses.length, .row 3 f_.Taps.length 0 f_.Taps.length, .row 4 f_.List.length 0 f_.List.length], .row 8 (f_.Feeder.Buses.map eSBus), .row 5 (f_.Taps.map eSTap), .row 3 (f_.List.map eSOutage)] (fun v o new => v = .row 5 r.1.length 0 r.1.length ∧ o = [.box [.d (.sl false (r.2.code.map eIntu8)), .d (.int .i64 r.2.at_), .d (.int .u64 r.2.seed)], .box [.d (.cx .f32 f_.Feeder.Source.A.re f_.Feeder.Source.A.im), .d (.cx .f32 f_.Feeder.Source.B.re f_.Feeder.Source.B.im), .d (.cx .f32 f_.Feeder.Source.C.re f_.Feeder.Source.C.im), .row 2 f_.Feeder.Buses.length 0 f_.Feeder.Buses.length, .row 3 f_.Taps.length 0 f_.Taps.length, .row 4 f_.List.length 0 f_.List.length], .row 8 (f_.Feeder.Buses.map eSBus), .row 5 (f_.Taps.map eSTap), .row 3 (f_.List.map eSOutage)] ∧ new = [.row 3 (r.1.map eSOutage)]) := by
  refine acall_of_aw hτ func111 rfl (by simp) (by simp) ?_
  unfold m_spec_l09DrawOutages at h
  refine aw_seq ?_
  refine aw_region ?_
  refine awl_val hτ rfl rfl rfl ?_
  refine awl_nil ?_
  refine aw_seq ?_
  refine aw_region ?_
  refine awl_valH hτ rfl rfl rfl ?_
  refine awl_val hτ rfl rfl rfl ?_
  refine awl_nil ?_
  refine aw_seq ?_
  refine aw_region ?_
  refine awl_val hτ rfl rfl rfl ?_
  refine bnd_elim h fun x59 hx59 h => ?_
  refine awl_callP hτ false [0] rfl rfl rfl (enterOk func44 rfl rfl) rfl rfl (by simp) ⟨trivial, trivial, trivial⟩ (by repeat' first | exact trivial | refine ⟨?_, ?_⟩) (spec_l00Src_pick_ok n s_ (5 : Int) hx59) ?_
  rintro r0 o0 n0 ⟨rfl, rfl, rfl⟩ -
  refine awl_val hτ rfl rfl rfl ?_
  refine awl_nil ?_
  refine aw_hk1 (ι := Int) (fun v61 => St.of [(0, .ptr 0 0), (1, .ptr 1 0), (5, .row 5 (([] : List SOutage).length) 0 (([] : List SOutage).length)), (6, .d (.int .i64 v61))] [.box [.d (.sl false (x59.2.code.map eIntu8)), .d (.int .i64 x59.2.at_), .d (.int .u64 x59.2.seed)], .box [.d (.cx .f32 f_.Feeder.Source.A.re f_.Feeder.Source.A.im), .d (.cx .f32 f_.Feeder.Source.B.re f_.Feeder.Source.B.im), .d (.cx .f32 f_.Feeder.Source.C.re f_.Feeder.Source.C.im), .row 2 f_.Feeder.Buses.length 0 f_.Feeder.Buses.length, .row 3 f_.Taps.length 0 f_.Taps.length, .row 4 f_.List.length 0 f_.List.length], .row 8 (f_.Feeder.Buses.map eSBus), .row 5 (f_.Taps.map eSTap), .row 3 (f_.List.map eSOutage), .row 3 (([] : List SOutage).map eSOutage)] f111.ntmps 5) (fun v61 => m_spec_l09DrawOutages_j1 n f_ x59 v61 = some r) ?_ (fun hk186 => ?_)
  · rintro v61 h
    replace h : m_spec_l09DrawOutages_j1 n f_ x59 v61 = some r := h
    unfold m_spec_l09DrawOutages_j1 at h
    refine aw_seq ?_
    refine aw_block ?_
    refine aw_loop (ι := Nat × List Int × Int × Int × List SOutage × Int) (fun (m118, v85, v86, v87, v88, v89) => St.of [(0, .ptr 0 0), (1, .ptr 1 0), (5, .row 5 v88.length 0 v88.length), (6, .d (.int .i64 v89))] [.box [.d (.sl false (v85.map eIntu8)), .d (.int .i64 v86), .d (.int .u64 v87)], .box [.d (.cx .f32 f_.Feeder.Source.A.re f_.Feeder.Source.A.im), .d (.cx .f32 f_.Feeder.Source.B.re f_.Feeder.Source.B.im), .d (.cx .f32 f_.Feeder.Source.C.re f_.Feeder.Source.C.im), .row 2 f_.Feeder.Buses.length 0 f_.Feeder.Buses.length, .row 3 f_.Taps.length 0 f_.Taps.length, .row 4 f_.List.length 0 f_.List.length], .row 8 (f_.Feeder.Buses.map eSBus), .row 5 (f_.Taps.map eSTap), .row 3 (f_.List.map eSOutage), .row 3 (v88.map eSOutage)] f111.ntmps 5) (fun (m118, v85, v86, v87, v88, v89) => m_spec_l09DrawOutages_l2 n f_ m118 v85 v86 v87 v88 v89 = some r) (fun x => x.1) (n, x59.2.code, x59.2.at_, x59.2.seed, ([] : List SOutage), v61) h (weak_ofP [0, 1, 2, 3, 4, 5] (l := [(0, .ptr 0 0), (1, .ptr 1 0), (5, .row 5 (([] : List SOutage).length) 0 (([] : List SOutage).length)), (6, .d (.int .i64 v61))]) (objs := [.box [.d (.sl false (x59.2.code.map eIntu8)), .d (.int .i64 x59.2.at_), .d (.int .u64 x59.2.seed)], .box [.d (.cx .f32 f_.Feeder.Source.A.re f_.Feeder.Source.A.im), .d (.cx .f32 f_.Feeder.Source.B.re f_.Feeder.Source.B.im), .d (.cx .f32 f_.Feeder.Source.C.re f_.Feeder.Source.C.im), .row 2 f_.Feeder.Buses.length 0 f_.Feeder.Buses.length, .row 3 f_.Taps.length 0 f_.Taps.length, .row 4 f_.List.length 0 f_.List.length], .row 8 (f_.Feeder.Buses.map eSBus), .row 5 (f_.Taps.map eSTap), .row 3 (f_.List.map eSOutage), .row 3 (([] : List SOutage).map eSOutage)]) rfl (by simp) rfl (by repeat' first | exact trivial | refine ⟨?_, ?_⟩) ⟨rfl, trivial, rfl, trivial, rfl, trivial, rfl, trivial, trivial⟩) ?_
    rintro ⟨m118, v85, v86, v87, v88, v89⟩ h
    replace h : m_spec_l09DrawOutages_l2 n f_ m118 v85 v86 v87 v88 v89 = some r := h
    rcases m118 with _ | m118
    · rw [m_spec_l09DrawOutages_l2] at h; cases h
    rw [m_spec_l09DrawOutages_l2] at h
    refine aw_seq ?_
    refine aw_seq ?_
    refine aw_region ?_
    refine awl_val hτ rfl rfl rfl ?_
    refine awl_val hτ rfl rfl rfl ?_
    refine awl_nil ?_
    refine aw_cond rfl (fun hc120 => ?_) (fun hc120 => ?_)
    · have h := if_t h hc120
      refine aw_skip ?_
      refine aw_hk1 (ι := List Int × Int × Int × List SOutage) (fun (v144, v145, v146, v147) => St.of [(0, .ptr 0 0), (1, .ptr 1 0), (5, .row 5 v147.length 0 v147.length), (6, .d (.int .i64 v89))] [.box [.d (.sl false (v144.map eIntu8)), .d (.int .i64 v145), .d (.int .u64 v146)], .box [.d (.cx .f32 f_.Feeder.Source.A.re f_.Feeder.Source.A.im), .d (.cx .f32 f_.Feeder.Source.B.re f_.Feeder.Source.B.im), .d (.cx .f32 f_.Feeder.Source.C.re f_.Feeder.Source.C.im), .row 2 f_.Feeder.Buses.length 0 f_.Feeder.Buses.length, .row 3 f_.Taps.length 0 f_.Taps.length, .row 4 f_.List.length 0 f_.List.length], .row 8 (f_.Feeder.Buses.map eSBus), .row 5 (f_.Taps.map eSTap), .row 3 (f_.List.map eSOutage), .row 3 (v147.map eSOutage)] f111.ntmps 5) (fun (v144, v145, v146, v147) => m_spec_l09DrawOutages_j3 n (m_spec_l09DrawOutages_l2 n f_ m118) v89 v144 v145 v146 v147 = some r) ?_ (fun hk148 => ?_)
      · rintro ⟨v144, v145, v146, v147⟩ h
        replace h : m_spec_l09DrawOutages_j3 n (m_spec_l09DrawOutages_l2 n f_ m118) v89 v144 v145 v146 v147 = some r := h
        unfold m_spec_l09DrawOutages_j3 at h
        refine aw_region ?_
        refine awl_val hτ rfl rfl rfl ?_
        refine awl_val hτ rfl rfl rfl ?_
        refine awl_val hτ rfl rfl rfl ?_
        refine awl_nil ?_
        exact ⟨(m118, v144, v145, v146, v147, (w64 (v89 - (1 : Int)))), h, Nat.lt_succ_self m118, (weak_ofP [0, 1, 2, 3, 4, 5] (l := [(0, .ptr 0 0), (1, .ptr 1 0), (5, .row 5 v147.length 0 v147.length), (6, .d (.int .i64 (w64 (v89 - (1 : Int)))))]) (objs := [.box [.d (.sl false (v144.map eIntu8)), .d (.int .i64 v145), .d (.int .u64 v146)], .box [.d (.cx .f32 f_.Feeder.Source.A.re f_.Feeder.Source.A.im), .d (.cx .f32 f_.Feeder.Source.B.re f_.Feeder.Source.B.im), .d (.cx .f32 f_.Feeder.Source.C.re f_.Feeder.Source.C.im), .row 2 f_.Feeder.Buses.length 0 f_.Feeder.Buses.length, .row 3 f_.Taps.length 0 f_.Taps.length, .row 4 f_.List.length 0 f_.List.length], .row 8 (f_.Feeder.Buses.map eSBus), .row 5 (f_.Taps.map eSTap), .row 3 (f_.List.map eSOutage), .row 3 (v147.map eSOutage)]) rfl (by simp) rfl (by repeat' first | exact trivial | refine ⟨?_, ?_⟩) ⟨rfl, trivial, rfl, trivial, rfl, trivial, rfl, trivial, trivial⟩)⟩
      · refine aw_seq ?_
        refine aw_block ?_
        refine aw_seq ?_
        refine aw_region ?_
        refine awl_val hτ rfl rfl rfl ?_
        refine awl_val hτ rfl rfl rfl ?_
        refine awl_val hτ rfl rfl rfl ?_
        refine awl_val hτ rfl rfl rfl ?_
        refine awl_val hτ rfl rfl rfl ?_
        refine awl_need hτ rfl rfl rfl (len_map _) ?_
        refine awl_val hτ rfl rfl rfl ?_
        refine bnd_elim h fun x149 hx149 h => ?_
        refine awl_callP hτ false [0] rfl rfl rfl (enterOk func44 rfl rfl) rfl rfl (by simp) ⟨trivial, trivial, trivial⟩ (by repeat' first | exact trivial | refine ⟨?_, ?_⟩) (spec_l00Src_pick_ok n (SL00Src.mk v85 v86 v87) (w64 ((f_.Feeder.Buses.length : Int) - (1 : Int))) hx149) ?_
        rintro r0 o0 n0 ⟨rfl, rfl, rfl⟩ -
        refine awl_val hτ rfl rfl rfl ?_
        refine awl_val hτ rfl rfl rfl ?_
        refine awl_weak (weak_ofP [0, 1, 2, 3, 4, 5] (l := [(0, .ptr 0 0), (1, .ptr 1 0), (5, .row 5 v88.length 0 v88.length), (6, .d (.int .i64 v89)), (30, .agg [.d (.int .i64 (w64 ((1 : Int) + x149.1))), .d (.int .i64 (0 : Int)), .d (.int .i64 (0 : Int))])]) (objs := [.box [.d (.sl false (x149.2.code.map eIntu8)), .d (.int .i64 x149.2.at_), .d (.int .u64 x149.2.seed)], .box [.d (.cx .f32 f_.Feeder.Source.A.re f_.Feeder.Source.A.im), .d (.cx .f32 f_.Feeder.Source.B.re f_.Feeder.Source.B.im), .d (.cx .f32 f_.Feeder.Source.C.re f_.Feeder.Source.C.im), .row 2 f_.Feeder.Buses.length 0 f_.Feeder.Buses.length, .row 3 f_.Taps.length 0 f_.Taps.length, .row 4 f_.List.length 0 f_.List.length], .row 8 (f_.Feeder.Buses.map eSBus), .row 5 (f_.Taps.map eSTap), .row 3 (f_.List.map eSOutage), .row 3 (v88.map eSOutage)]) rfl (by simp) rfl (by repeat' first | exact trivial | refine ⟨?_, ?_⟩) ⟨rfl, trivial, rfl, trivial, rfl, trivial, rfl, trivial, rfl, (by repeat' first | exact trivial | refine ⟨?_, ?_⟩), trivial⟩) ?_
        refine awl_valH hτ rfl rfl rfl ?_
        refine awl_valH hτ rfl rfl rfl ?_
        refine awl_nil ?_
        refine aw_seq ?_
        refine aw_region ?_
        refine awl_val hτ rfl rfl rfl ?_
        refine bnd_elim h fun x150 hx150 h => ?_
        refine awl_callP hτ false [0] rfl rfl rfl (enterOk func44 rfl rfl) rfl rfl (by simp) ⟨trivial, trivial, trivial⟩ (by repeat' first | exact trivial | refine ⟨?_, ?_⟩) (spec_l00Src_pick_ok n x149.2 (20 : Int) hx150) ?_
        rintro r0 o0 n0 ⟨rfl, rfl, rfl⟩ -
        refine awl_val hτ rfl rfl rfl ?_
        refine awl_valH hτ rfl rfl rfl ?_
        refine awl_nil ?_
        refine aw_seq ?_
        refine aw_weak (weak_ofP [0, 1, 2, 3, 4, 5, 6] (l := [(0, .ptr 0 0), (1, .ptr 1 0), (5, .row 5 v88.length 0 v88.length), (6, .d (.int .i64 v89)), (7, .ptr 6 0)]) (objs := [.box [.d (.sl false (x150.2.code.map eIntu8)), .d (.int .i64 x150.2.at_), .d (.int .u64 x150.2.seed)], .box [.d (.cx .f32 f_.Feeder.Source.A.re f_.Feeder.Source.A.im), .d (.cx .f32 f_.Feeder.Source.B.re f_.Feeder.Source.B.im), .d (.cx .f32 f_.Feeder.Source.C.re f_.Feeder.Source.C.im), .row 2 f_.Feeder.Buses.length 0 f_.Feeder.Buses.length, .row 3 f_.Taps.length 0 f_.Taps.length, .row 4 f_.List.length 0 f_.List.length], .row 8 (f_.Feeder.Buses.map eSBus), .row 5 (f_.Taps.map eSTap), .row 3 (f_.List.map eSOutage), .row 3 (v88.map eSOutage), .box [.d (.int .i64 (w64 ((1 : Int) + x149.1))), .d (.int .i64 x150.1), .d (.int .i64 (0 : Int))]]) rfl (by simp) rfl (by repeat' first | exact trivial | refine ⟨?_, ?_⟩) ⟨rfl, trivial, rfl, trivial, rfl, trivial, rfl, trivial, rfl, trivial, trivial⟩) ?_
        refine any_start ?_
        refine any_val hτ [6] 0 rfl rfl rfl rfl rfl ?_
        refine any_val hτ [6] 1 rfl rfl rfl rfl rfl ?_
        refine any_val hτ [] 2 rfl rfl rfl rfl rfl ?_
        refine any_val hτ [] 3 rfl rfl rfl rfl rfl ?_
        refine bnd_elim h fun x151 hx151 h => ?_
        refine any_callP hτ false [0] [1, 2, 3, 4, 5, 6] 4 rfl rfl rfl rfl (enterOk func44 rfl rfl) rfl rfl (by simp) ⟨trivial, trivial, trivial⟩ (by repeat' first | exact trivial | refine ⟨?_, ?_⟩) (spec_l00Src_pick_ok n x150.2 (10 : Int) hx151) ⟨rfl, rfl, rfl, rfl, rfl, rfl, trivial⟩ ?_
        refine any_val hτ [] 5 rfl rfl rfl rfl rfl ?_
        refine any_val hτ [6] 6 rfl rfl rfl rfl rfl ?_
        refine any_valHP hτ [0, 1, 2, 3, 4, 5] 7 rfl rfl rfl rfl ⟨rfl, rfl, rfl, rfl, rfl, rfl, trivial⟩ ?_
        refine any_done mixed (by kernel_rfl) ?_
        refine aw_hk1 (ι := List Int × Int × Int × Int × Int × Int) (fun (v171, v172, v173, v174, v175, v176) => St.of [(0, .ptr 0 0), (1, .ptr 1 0), (5, .row 5 v88.length 0 v88.length), (6, .d (.int .i64 v89)), (7, .ptr 6 0)] [.box [.d (.sl false (v171.map eIntu8)), .d (.int .i64 v172), .d (.int .u64 v173)], .box [.d (.cx .f32 f_.Feeder.Source.A.re f_.Feeder.Source.A.im), .d (.cx .f32 f_.Feeder.Source.B.re f_.Feeder.Source.B.im), .d (.cx .f32 f_.Feeder.Source.C.re f_.Feeder.Source.C.im), .row 2 f_.Feeder.Buses.length 0 f_.Feeder.Buses.length, .row 3 f_.Taps.length 0 f_.Taps.length, .row 4 f_.List.length 0 f_.List.length], .row 8 (f_.Feeder.Buses.map eSBus), .row 5 (f_.Taps.map eSTap), .row 3 (f_.List.map eSOutage), .row 3 (v88.map eSOutage), .box [.d (.int .i64 v174), .d (.int .i64 v175), .d (.int .i64 v176)]] f111.ntmps 5) (fun (v171, v172, v173, v174, v175, v176) => m_spec_l09DrawOutages_j4 n (m_spec_l09DrawOutages_l2 n f_ m118) v88 v89 v171 v172 v173 v174 v175 v176 = some r) ?_ (fun hk178 => ?_)
        · rintro ⟨v171, v172, v173, v174, v175, v176⟩ h
          replace h : m_spec_l09DrawOutages_j4 n (m_spec_l09DrawOutages_l2 n f_ m118) v88 v89 v171 v172 v173 v174 v175 v176 = some r := h
          unfold m_spec_l09DrawOutages_j4 at h
          refine aw_region ?_
          refine awl_val hτ rfl rfl rfl ?_
          refine awl_val hτ rfl rfl rfl ?_
          refine awl_valH hτ rfl rfl rfl ?_
          refine grd_elim h fun hg177 h => ?_
          refine awl_needH hτ rfl rfl (Eq.trans rfl (or_append (f := eSOutage) v88 [(SOutage.mk v174 v175 v176)] rfl)) ⟨⟨rfl, Nat.le_of_ble_eq_true rfl⟩, len_map _, rfl, rfl, hg177, by decide, (all1 rfl)⟩ ?_
          refine awl_val hτ rfl rfl rfl ?_
          refine awl_nil ?_
          refine aw_weak (weak_ofP [0, 1, 2, 3, 4, 5] (l := [(0, .ptr 0 0), (1, .ptr 1 0), (5, .row 5 ((v88 ++ [(SOutage.mk v174 v175 v176)]).length) 0 ((v88 ++ [(SOutage.mk v174 v175 v176)]).length)), (6, .d (.int .i64 v89))]) (objs := [.box [.d (.sl false (v171.map eIntu8)), .d (.int .i64 v172), .d (.int .u64 v173)], .box [.d (.cx .f32 f_.Feeder.Source.A.re f_.Feeder.Source.A.im), .d (.cx .f32 f_.Feeder.Source.B.re f_.Feeder.Source.B.im), .d (.cx .f32 f_.Feeder.Source.C.re f_.Feeder.Source.C.im), .row 2 f_.Feeder.Buses.length 0 f_.Feeder.Buses.length, .row 3 f_.Taps.length 0 f_.Taps.length, .row 4 f_.List.length 0 f_.List.length], .row 8 (f_.Feeder.Buses.map eSBus), .row 5 (f_.Taps.map eSTap), .row 3 (f_.List.map eSOutage), .row 3 ((v88 ++ [(SOutage.mk v174 v175 v176)]).map eSOutage)]) rfl (by simp) rfl (by repeat' first | exact trivial | refine ⟨?_, ?_⟩) ⟨rfl, trivial, rfl, trivial, rfl, trivial, rfl, trivial, trivial⟩) ?_
          exact hk148 (v171, v172, v173, (v88 ++ [(SOutage.mk v174 v175 v176)])) h
        · refine aw_seq ?_
          refine aw_seq ?_
          refine aw_weak (weak_ofP [0, 1, 2, 3, 4, 5, 6] (l := [(0, .ptr 0 0), (1, .ptr 1 0), (5, .row 5 v88.length 0 v88.length), (6, .d (.int .i64 v89)), (7, .ptr 6 0)]) (objs := [.box [.d (.sl false (x151.2.code.map eIntu8)), .d (.int .i64 x151.2.at_), .d (.int .u64 x151.2.seed)], .box [.d (.cx .f32 f_.Feeder.Source.A.re f_.Feeder.Source.A.im), .d (.cx .f32 f_.Feeder.Source.B.re f_.Feeder.Source.B.im), .d (.cx .f32 f_.Feeder.Source.C.re f_.Feeder.Source.C.im), .row 2 f_.Feeder.Buses.length 0 f_.Feeder.Buses.length, .row 3 f_.Taps.length 0 f_.Taps.length, .row 4 f_.List.length 0 f_.List.length], .row 8 (f_.Feeder.Buses.map eSBus), .row 5 (f_.Taps.map eSTap), .row 3 (f_.List.map eSOutage), .row 3 (v88.map eSOutage), .box [.d (.int .i64 (w64 ((1 : Int) + x149.1))), .d (.int .i64 x150.1), .d (.int .i64 (w64 ((w64 (x150.1 + (1 : Int))) + x151.1)))]]) rfl (by simp) rfl (by repeat' first | exact trivial | refine ⟨?_, ?_⟩) ⟨rfl, trivial, rfl, trivial, rfl, trivial, rfl, trivial, rfl, trivial, trivial⟩) ?_
          refine aw_region ?_
          refine awl_val hτ rfl rfl rfl ?_
          refine bnd_elim h fun x179 hx179 h => ?_
          refine awl_callP hτ false [0] rfl rfl rfl (enterOk func44 rfl rfl) rfl rfl (by simp) ⟨trivial, trivial, trivial⟩ (by repeat' first | exact trivial | refine ⟨?_, ?_⟩) (spec_l00Src_pick_ok n x151.2 (40 : Int) hx179) ?_
          rintro r0 o0 n0 ⟨rfl, rfl, rfl⟩ -
          refine awl_nil ?_
          refine aw_block ?_
          refine aw_seq ?_
          refine aw_region ?_
          refine awl_val hτ (v := .d (.bool (decide (x179.1 = (0 : Int))))) rfl rfl (or_ieq _ _) ?_
          refine awl_val hτ rfl rfl rfl ?_
          refine awl_nil ?_
          refine aw_cond rfl (fun hc180 => ?_) (fun hc180 => ?_)
          · have h := if_t h hc180
            refine aw_region ?_
            refine awl_val hτ rfl rfl rfl ?_
            refine awl_valH hτ rfl rfl rfl ?_
            refine awl_weak (weak_ofP [0, 1, 2, 3, 4, 5, 6] (l := [(0, .ptr 0 0), (1, .ptr 1 0), (5, .row 5 v88.length 0 v88.length), (6, .d (.int .i64 v89)), (7, .ptr 6 0), (45, .ptr 0 0), (46, .d (.sl false ([(-1 : Int), (0 : Int), (16 : Int)].map eInti64)))]) (objs := [.box [.d (.sl false (x179.2.code.map eIntu8)), .d (.int .i64 x179.2.at_), .d (.int .u64 x179.2.seed)], .box [.d (.cx .f32 f_.Feeder.Source.A.re f_.Feeder.Source.A.im), .d (.cx .f32 f_.Feeder.Source.B.re f_.Feeder.Source.B.im), .d (.cx .f32 f_.Feeder.Source.C.re f_.Feeder.Source.C.im), .row 2 f_.Feeder.Buses.length 0 f_.Feeder.Buses.length, .row 3 f_.Taps.length 0 f_.Taps.length, .row 4 f_.List.length 0 f_.List.length], .row 8 (f_.Feeder.Buses.map eSBus), .row 5 (f_.Taps.map eSTap), .row 3 (f_.List.map eSOutage), .row 3 (v88.map eSOutage), .box [.d (.int .i64 (w64 ((1 : Int) + x149.1))), .d (.int .i64 x150.1), .d (.int .i64 (w64 ((w64 (x150.1 + (1 : Int))) + x151.1)))]]) rfl (by simp) rfl (by repeat' first | exact trivial | refine ⟨?_, ?_⟩) ⟨rfl, trivial, rfl, trivial, rfl, trivial, rfl, trivial, rfl, trivial, rfl, trivial, (exV_view (f := eInti64) [(-1 : Int), (0 : Int), (16 : Int)] rfl rfl rfl), (exVP_view (f := eInti64) [(-1 : Int), (0 : Int), (16 : Int)] rfl rfl rfl), trivial⟩) ?_
            refine bnd_elim h fun x181 hx181 h => ?_
            refine awl_callP hτ false [0] rfl rfl rfl (enterOk func95 rfl rfl) rfl rfl (by simp) ⟨trivial, trivial, trivial⟩ (by repeat' first | exact trivial | refine ⟨?_, ?_⟩) (spec_l00Src_among_ok n x179.2 [(-1 : Int), (0 : Int), (16 : Int)] hx181) ?_
            rintro r0 o0 n0 ⟨rfl, rfl, rfl⟩ -
            refine awl_val hτ rfl rfl rfl ?_
            refine awl_valH hτ rfl rfl rfl ?_
            refine awl_nil ?_
            refine aw_weak (weak_ofP [0, 1, 2, 3, 4, 5, 6] (l := [(0, .ptr 0 0), (1, .ptr 1 0), (5, .row 5 v88.length 0 v88.length), (6, .d (.int .i64 v89)), (7, .ptr 6 0)]) (objs := [.box [.d (.sl false (x181.2.code.map eIntu8)), .d (.int .i64 x181.2.at_), .d (.int .u64 x181.2.seed)], .box [.d (.cx .f32 f_.Feeder.Source.A.re f_.Feeder.Source.A.im), .d (.cx .f32 f_.Feeder.Source.B.re f_.Feeder.Source.B.im), .d (.cx .f32 f_.Feeder.Source.C.re f_.Feeder.Source.C.im), .row 2 f_.Feeder.Buses.length 0 f_.Feeder.Buses.length, .row 3 f_.Taps.length 0 f_.Taps.length, .row 4 f_.List.length 0 f_.List.length], .row 8 (f_.Feeder.Buses.map eSBus), .row 5 (f_.Taps.map eSTap), .row 3 (f_.List.map eSOutage), .row 3 (v88.map eSOutage), .box [.d (.int .i64 x181.1), .d (.int .i64 x150.1), .d (.int .i64 (w64 ((w64 (x150.1 + (1 : Int))) + x151.1)))]]) rfl (by simp) rfl (by repeat' first | exact trivial | refine ⟨?_, ?_⟩) ⟨rfl, trivial, rfl, trivial, rfl, trivial, rfl, trivial, rfl, trivial, trivial⟩) ?_
            exact hk178 (x181.2.code, x181.2.at_, x181.2.seed, x181.1, x150.1, (w64 ((w64 (x150.1 + (1 : Int))) + x151.1))) h
          · have h := if_f h hc180
            refine aw_seq ?_
            refine aw_region ?_
            refine awl_val hτ (v := .d (.bool (decide (x179.1 = (1 : Int))))) rfl rfl (or_ieq _ _) ?_
            refine awl_val hτ rfl rfl rfl ?_
            refine awl_nil ?_
            refine aw_weak (weak_ofP [0, 1, 2, 3, 4, 5, 6] (l := [(0, .ptr 0 0), (1, .ptr 1 0), (5, .row 5 v88.length 0 v88.length), (6, .d (.int .i64 v89)), (7, .ptr 6 0), (42, .d (.int .i64 x179.1)), (49, .d (.bool (decide (x179.1 = (1 : Int)))))]) (objs := [.box [.d (.sl false (x179.2.code.map eIntu8)), .d (.int .i64 x179.2.at_), .d (.int .u64 x179.2.seed)], .box [.d (.cx .f32 f_.Feeder.Source.A.re f_.Feeder.Source.A.im), .d (.cx .f32 f_.Feeder.Source.B.re f_.Feeder.Source.B.im), .d (.cx .f32 f_.Feeder.Source.C.re f_.Feeder.Source.C.im), .row 2 f_.Feeder.Buses.length 0 f_.Feeder.Buses.length, .row 3 f_.Taps.length 0 f_.Taps.length, .row 4 f_.List.length 0 f_.List.length], .row 8 (f_.Feeder.Buses.map eSBus), .row 5 (f_.Taps.map eSTap), .row 3 (f_.List.map eSOutage), .row 3 (v88.map eSOutage), .box [.d (.int .i64 (w64 ((1 : Int) + x149.1))), .d (.int .i64 x150.1), .d (.int .i64 (w64 ((w64 (x150.1 + (1 : Int))) + x151.1)))]]) rfl (by simp) rfl (by repeat' first | exact trivial | refine ⟨?_, ?_⟩) ⟨rfl, trivial, rfl, trivial, rfl, trivial, rfl, trivial, rfl, trivial, rfl, trivial, rfl, trivial, trivial⟩) ?_
            refine aw_cond rfl (fun hc182 => ?_) (fun hc182 => ?_)
            · have h := if_t h hc182
              refine aw_region ?_
              refine awl_val hτ rfl rfl rfl ?_
              refine awl_val hτ rfl rfl rfl ?_
              refine awl_val hτ rfl rfl rfl ?_
              refine awl_valH hτ rfl rfl rfl ?_
              refine awl_weak (weak_ofP [0, 1, 2, 3, 4, 5, 6] (l := [(0, .ptr 0 0), (1, .ptr 1 0), (5, .row 5 v88.length 0 v88.length), (6, .d (.int .i64 v89)), (7, .ptr 6 0), (51, .ptr 0 0), (54, .d (.sl false ([(0 : Int), x150.1, (100000 : Int), (100001 : Int)].map eInti64)))]) (objs := [.box [.d (.sl false (x179.2.code.map eIntu8)), .d (.int .i64 x179.2.at_), .d (.int .u64 x179.2.seed)], .box [.d (.cx .f32 f_.Feeder.Source.A.re f_.Feeder.Source.A.im), .d (.cx .f32 f_.Feeder.Source.B.re f_.Feeder.Source.B.im), .d (.cx .f32 f_.Feeder.Source.C.re f_.Feeder.Source.C.im), .row 2 f_.Feeder.Buses.length 0 f_.Feeder.Buses.length, .row 3 f_.Taps.length 0 f_.Taps.length, .row 4 f_.List.length 0 f_.List.length], .row 8 (f_.Feeder.Buses.map eSBus), .row 5 (f_.Taps.map eSTap), .row 3 (f_.List.map eSOutage), .row 3 (v88.map eSOutage), .box [.d (.int .i64 (w64 ((1 : Int) + x149.1))), .d (.int .i64 x150.1), .d (.int .i64 (w64 ((w64 (x150.1 + (1 : Int))) + x151.1)))]]) rfl (by simp) rfl (by repeat' first | exact trivial | refine ⟨?_, ?_⟩) ⟨rfl, trivial, rfl, trivial, rfl, trivial, rfl, trivial, rfl, trivial, rfl, trivial, (exV_view (f := eInti64) [(0 : Int), x150.1, (100000 : Int), (100001 : Int)] rfl rfl rfl), (exVP_view (f := eInti64) [(0 : Int), x150.1, (100000 : Int), (100001 : Int)] rfl rfl rfl), trivial⟩) ?_
              refine bnd_elim h fun x183 hx183 h => ?_
              refine awl_callP hτ false [0] rfl rfl rfl (enterOk func95 rfl rfl) rfl rfl (by simp) ⟨trivial, trivial, trivial⟩ (by repeat' first | exact trivial | refine ⟨?_, ?_⟩) (spec_l00Src_among_ok n x179.2 [(0 : Int), x150.1, (100000 : Int), (100001 : Int)] hx183) ?_
              rintro r0 o0 n0 ⟨rfl, rfl, rfl⟩ -
              refine awl_val hτ rfl rfl rfl ?_
              refine awl_valH hτ rfl rfl rfl ?_
              refine awl_nil ?_
              refine aw_weak (weak_ofP [0, 1, 2, 3, 4, 5, 6] (l := [(0, .ptr 0 0), (1, .ptr 1 0), (5, .row 5 v88.length 0 v88.length), (6, .d (.int .i64 v89)), (7, .ptr 6 0)]) (objs := [.box [.d (.sl false (x183.2.code.map eIntu8)), .d (.int .i64 x183.2.at_), .d (.int .u64 x183.2.seed)], .box [.d (.cx .f32 f_.Feeder.Source.A.re f_.Feeder.Source.A.im), .d (.cx .f32 f_.Feeder.Source.B.re f_.Feeder.Source.B.im), .d (.cx .f32 f_.Feeder.Source.C.re f_.Feeder.Source.C.im), .row 2 f_.Feeder.Buses.length 0 f_.Feeder.Buses.length, .row 3 f_.Taps.length 0 f_.Taps.length, .row 4 f_.List.length 0 f_.List.length], .row 8 (f_.Feeder.Buses.map eSBus), .row 5 (f_.Taps.map eSTap), .row 3 (f_.List.map eSOutage), .row 3 (v88.map eSOutage), .box [.d (.int .i64 (w64 ((1 : Int) + x149.1))), .d (.int .i64 x150.1), .d (.int .i64 x183.1)]]) rfl (by simp) rfl (by repeat' first | exact trivial | refine ⟨?_, ?_⟩) ⟨rfl, trivial, rfl, trivial, rfl, trivial, rfl, trivial, rfl, trivial, trivial⟩) ?_
              exact hk178 (x183.2.code, x183.2.at_, x183.2.seed, (w64 ((1 : Int) + x149.1)), x150.1, x183.1) h
            · have h := if_f h hc182
              refine aw_seq ?_
              refine aw_region ?_
              refine awl_val hτ (v := .d (.bool (decide (x179.1 = (2 : Int))))) rfl rfl (or_ieq _ _) ?_
              refine awl_val hτ rfl rfl rfl ?_
              refine awl_nil ?_
              refine aw_cond rfl (fun hc184 => ?_) (fun hc184 => ?_)
              · have h := if_t h hc184
                refine aw_region ?_
                refine awl_val hτ rfl rfl rfl ?_
                refine awl_valH hτ rfl rfl rfl ?_
                refine awl_weak (weak_ofP [0, 1, 2, 3, 4, 5, 6] (l := [(0, .ptr 0 0), (1, .ptr 1 0), (5, .row 5 v88.length 0 v88.length), (6, .d (.int .i64 v89)), (7, .ptr 6 0), (59, .ptr 0 0), (60, .d (.sl false ([(-1 : Int), (-9223372036854775808 : Int)].map eInti64)))]) (objs := [.box [.d (.sl false (x179.2.code.map eIntu8)), .d (.int .i64 x179.2.at_), .d (.int .u64 x179.2.seed)], .box [.d (.cx .f32 f_.Feeder.Source.A.re f_.Feeder.Source.A.im), .d (.cx .f32 f_.Feeder.Source.B.re f_.Feeder.Source.B.im), .d (.cx .f32 f_.Feeder.Source.C.re f_.Feeder.Source.C.im), .row 2 f_.Feeder.Buses.length 0 f_.Feeder.Buses.length, .row 3 f_.Taps.length 0 f_.Taps.length, .row 4 f_.List.length 0 f_.List.length], .row 8 (f_.Feeder.Buses.map eSBus), .row 5 (f_.Taps.map eSTap), .row 3 (f_.List.map eSOutage), .row 3 (v88.map eSOutage), .box [.d (.int .i64 (w64 ((1 : Int) + x149.1))), .d (.int .i64 x150.1), .d (.int .i64 (w64 ((w64 (x150.1 + (1 : Int))) + x151.1)))]]) rfl (by simp) rfl (by repeat' first | exact trivial | refine ⟨?_, ?_⟩) ⟨rfl, trivial, rfl, trivial, rfl, trivial, rfl, trivial, rfl, trivial, rfl, trivial, (exV_view (f := eInti64) [(-1 : Int), (-9223372036854775808 : Int)] rfl rfl rfl), (exVP_view (f := eInti64) [(-1 : Int), (-9223372036854775808 : Int)] rfl rfl rfl), trivial⟩) ?_
                refine bnd_elim h fun x185 hx185 h => ?_
                refine awl_callP hτ false [0] rfl rfl rfl (enterOk func95 rfl rfl) rfl rfl (by simp) ⟨trivial, trivial, trivial⟩ (by repeat' first | exact trivial | refine ⟨?_, ?_⟩) (spec_l00Src_among_ok n x179.2 [(-1 : Int), (-9223372036854775808 : Int)] hx185) ?_
                rintro r0 o0 n0 ⟨rfl, rfl, rfl⟩ -
                refine awl_val hτ rfl rfl rfl ?_
                refine awl_valH hτ rfl rfl rfl ?_
                refine awl_nil ?_
                refine aw_weak (weak_ofP [0, 1, 2, 3, 4, 5, 6] (l := [(0, .ptr 0 0), (1, .ptr 1 0), (5, .row 5 v88.length 0 v88.length), (6, .d (.int .i64 v89)), (7, .ptr 6 0)]) (objs := [.box [.d (.sl false (x185.2.code.map eIntu8)), .d (.int .i64 x185.2.at_), .d (.int .u64 x185.2.seed)], .box [.d (.cx .f32 f_.Feeder.Source.A.re f_.Feeder.Source.A.im), .d (.cx .f32 f_.Feeder.Source.B.re f_.Feeder.Source.B.im), .d (.cx .f32 f_.Feeder.Source.C.re f_.Feeder.Source.C.im), .row 2 f_.Feeder.Buses.length 0 f_.Feeder.Buses.length, .row 3 f_.Taps.length 0 f_.Taps.length, .row 4 f_.List.length 0 f_.List.length], .row 8 (f_.Feeder.Buses.map eSBus), .row 5 (f_.Taps.map eSTap), .row 3 (f_.List.map eSOutage), .row 3 (v88.map eSOutage), .box [.d (.int .i64 (w64 ((1 : Int) + x149.1))), .d (.int .i64 x185.1), .d (.int .i64 (w64 ((w64 (x150.1 + (1 : Int))) + x151.1)))]]) rfl (by simp) rfl (by repeat' first | exact trivial | refine ⟨?_, ?_⟩) ⟨rfl, trivial, rfl, trivial, rfl, trivial, rfl, trivial, rfl, trivial, trivial⟩) ?_
                exact hk178 (x185.2.code, x185.2.at_, x185.2.seed, (w64 ((1 : Int) + x149.1)), x185.1, (w64 ((w64 (x150.1 + (1 : Int))) + x151.1))) h
              · have h := if_f h hc184
                refine aw_skip ?_
                refine aw_weak (weak_ofP [0, 1, 2, 3, 4, 5, 6] (l := [(0, .ptr 0 0), (1, .ptr 1 0), (5, .row 5 v88.length 0 v88.length), (6, .d (.int .i64 v89)), (7, .ptr 6 0)]) (objs := [.box [.d (.sl false (x179.2.code.map eIntu8)), .d (.int .i64 x179.2.at_), .d (.int .u64 x179.2.seed)], .box [.d (.cx .f32 f_.Feeder.Source.A.re f_.Feeder.Source.A.im), .d (.cx .f32 f_.Feeder.Source.B.re f_.Feeder.Source.B.im), .d (.cx .f32 f_.Feeder.Source.C.re f_.Feeder.Source.C.im), .row 2 f_.Feeder.Buses.length 0 f_.Feeder.Buses.length, .row 3 f_.Taps.length 0 f_.Taps.length, .row 4 f_.List.length 0 f_.List.length], .row 8 (f_.Feeder.Buses.map eSBus), .row 5 (f_.Taps.map eSTap), .row 3 (f_.List.map eSOutage), .row 3 (v88.map eSOutage), .box [.d (.int .i64 (w64 ((1 : Int) + x149.1))), .d (.int .i64 x150.1), .d (.int .i64 (w64 ((w64 (x150.1 + (1 : Int))) + x151.1)))]]) rfl (by simp) rfl (by repeat' first | exact trivial | refine ⟨?_, ?_⟩) ⟨rfl, trivial, rfl, trivial, rfl, trivial, rfl, trivial, rfl, trivial, trivial⟩) ?_
                exact hk178 (x179.2.code, x179.2.at_, x179.2.seed, (w64 ((1 : Int) + x149.1)), x150.1, (w64 ((w64 (x150.1 + (1 : Int))) + x151.1))) h
    · have h := if_f h hc120
      refine aw_exit ?_
      refine aw_seq ?_
      refine aw_region ?_
      refine awl_val hτ rfl rfl rfl ?_
      refine awl_val hτ rfl rfl rfl ?_
      refine awl_nil ?_
      refine aw_weak (weak_ofP [0, 1, 2, 3, 4, 5] (l := [(4, .row 5 v88.length 0 v88.length)]) (objs := [.box [.d (.sl false (v85.map eIntu8)), .d (.int .i64 v86), .d (.int .u64 v87)], .box [.d (.cx .f32 f_.Feeder.Source.A.re f_.Feeder.Source.A.im), .d (.cx .f32 f_.Feeder.Source.B.re f_.Feeder.Source.B.im), .d (.cx .f32 f_.Feeder.Source.C.re f_.Feeder.Source.C.im), .row 2 f_.Feeder.Buses.length 0 f_.Feeder.Buses.length, .row 3 f_.Taps.length 0 f_.Taps.length, .row 4 f_.List.length 0 f_.List.length], .row 8 (f_.Feeder.Buses.map eSBus), .row 5 (f_.Taps.map eSTap), .row 3 (f_.List.map eSOutage), .row 3 (v88.map eSOutage)]) rfl (by simp) rfl (by repeat' first | exact trivial | refine ⟨?_, ?_⟩) ⟨rfl, trivial, trivial⟩) ?_
      refine aw_ret ?_
      have hr := Option.some.inj h
      subst hr
      exact ret_objs (.inr rfl) [5] (objs' := [.box [.d (.sl false (v85.map eIntu8)), .d (.int .i64 v86), .d (.int .u64 v87)], .box [.d (.cx .f32 f_.Feeder.Source.A.re f_.Feeder.Source.A.im), .d (.cx .f32 f_.Feeder.Source.B.re f_.Feeder.Source.B.im), .d (.cx .f32 f_.Feeder.Source.C.re f_.Feeder.Source.C.im), .row 2 f_.Feeder.Buses.length 0 f_.Feeder.Buses.length, .row 3 f_.Taps.length 0 f_.Taps.length, .row 4 f_.List.length 0 f_.List.length], .row 8 (f_.Feeder.Buses.map eSBus), .row 5 (f_.Taps.map eSTap), .row 3 (f_.List.map eSOutage)]) (new := [.row 3 (v88.map eSOutage)]) rfl (by simp) (by simp) rfl (by repeat' first | exact trivial | refine ⟨?_, ?_⟩) rfl rfl (by repeat' first | exact trivial | refine ⟨?_, ?_⟩) (fun h => nomatch h) ⟨rfl, rfl, rfl⟩
  · refine aw_seq ?_
    refine aw_seq ?_
    refine aw_weak (weak_ofP [0, 1, 2, 3, 4, 5] (l := [(0, .ptr 0 0), (1, .ptr 1 0), (5, .row 5 (([] : List SOutage).length) 0 (([] : List SOutage).length)), (6, .d (.int .i64 x59.1))]) (objs := [.box [.d (.sl false (x59.2.code.map eIntu8)), .d (.int .i64 x59.2.at_), .d (.int .u64 x59.2.seed)], .box [.d (.cx .f32 f_.Feeder.Source.A.re f_.Feeder.Source.A.im), .d (.cx .f32 f_.Feeder.Source.B.re f_.Feeder.Source.B.im), .d (.cx .f32 f_.Feeder.Source.C.re f_.Feeder.Source.C.im), .row 2 f_.Feeder.Buses.length 0 f_.Feeder.Buses.length, .row 3 f_.Taps.length 0 f_.Taps.length, .row 4 f_.List.length 0 f_.List.length], .row 8 (f_.Feeder.Buses.map eSBus), .row 5 (f_.Taps.map eSTap), .row 3 (f_.List.map eSOutage), .row 3 (([] : List SOutage).map eSOutage)]) rfl (by simp) rfl (by repeat' first | exact trivial | refine ⟨?_, ?_⟩) ⟨rfl, trivial, rfl, trivial, rfl, trivial, rfl, trivial, trivial⟩) ?_
    refine aw_region ?_
    refine awl_val hτ rfl rfl rfl ?_
    refine awl_val hτ rfl rfl rfl ?_
    refine awl_val hτ rfl rfl rfl ?_
    refine awl_val hτ rfl rfl rfl ?_
    refine awl_need hτ rfl rfl rfl (len_map _) ?_
    refine awl_val hτ rfl rfl rfl ?_
    refine awl_nil ?_
    refine aw_weak (weak_ofP [0, 1, 2, 3, 4, 5] (l := [(0, .ptr 0 0), (1, .ptr 1 0), (5, .row 5 (([] : List SOutage).length) 0 (([] : List SOutage).length)), (6, .d (.int .i64 x59.1)), (16, .d (.bool (decide ((f_.Feeder.Buses.length : Int) < (2 : Int)))))]) (objs := [.box [.d (.sl false (x59.2.code.map eIntu8)), .d (.int .i64 x59.2.at_), .d (.int .u64 x59.2.seed)], .box [.d (.cx .f32 f_.Feeder.Source.A.re f_.Feeder.Source.A.im), .d (.cx .f32 f_.Feeder.Source.B.re f_.Feeder.Source.B.im), .d (.cx .f32 f_.Feeder.Source.C.re f_.Feeder.Source.C.im), .row 2 f_.Feeder.Buses.length 0 f_.Feeder.Buses.length, .row 3 f_.Taps.length 0 f_.Taps.length, .row 4 f_.List.length 0 f_.List.length], .row 8 (f_.Feeder.Buses.map eSBus), .row 5 (f_.Taps.map eSTap), .row 3 (f_.List.map eSOutage), .row 3 (([] : List SOutage).map eSOutage)]) rfl (by simp) rfl (by repeat' first | exact trivial | refine ⟨?_, ?_⟩) ⟨rfl, trivial, rfl, trivial, rfl, trivial, rfl, trivial, rfl, trivial, trivial⟩) ?_
    refine aw_cond rfl (fun hc187 => ?_) (fun hc187 => ?_)
    · have h := if_t h hc187
      refine aw_region ?_
      refine awl_val hτ rfl rfl rfl ?_
      refine awl_nil ?_
      refine aw_weak (weak_ofP [0, 1, 2, 3, 4, 5] (l := [(0, .ptr 0 0), (1, .ptr 1 0), (5, .row 5 (([] : List SOutage).length) 0 (([] : List SOutage).length)), (6, .d (.int .i64 (0 : Int)))]) (objs := [.box [.d (.sl false (x59.2.code.map eIntu8)), .d (.int .i64 x59.2.at_), .d (.int .u64 x59.2.seed)], .box [.d (.cx .f32 f_.Feeder.Source.A.re f_.Feeder.Source.A.im), .d (.cx .f32 f_.Feeder.Source.B.re f_.Feeder.Source.B.im), .d (.cx .f32 f_.Feeder.Source.C.re f_.Feeder.Source.C.im), .row 2 f_.Feeder.Buses.length 0 f_.Feeder.Buses.length, .row 3 f_.Taps.length 0 f_.Taps.length, .row 4 f_.List.length 0 f_.List.length], .row 8 (f_.Feeder.Buses.map eSBus), .row 5 (f_.Taps.map eSTap), .row 3 (f_.List.map eSOutage), .row 3 (([] : List SOutage).map eSOutage)]) rfl (by simp) rfl (by repeat' first | exact trivial | refine ⟨?_, ?_⟩) ⟨rfl, trivial, rfl, trivial, rfl, trivial, rfl, trivial, trivial⟩) ?_
      exact hk186 (0 : Int) h
    · have h := if_f h hc187
      refine aw_skip ?_
      refine aw_weak (weak_ofP [0, 1, 2, 3, 4, 5] (l := [(0, .ptr 0 0), (1, .ptr 1 0), (5, .row 5 (([] : List SOutage).length) 0 (([] : List SOutage).length)), (6, .d (.int .i64 x59.1))]) (objs := [.box [.d (.sl false (x59.2.code.map eIntu8)), .d (.int .i64 x59.2.at_), .d (.int .u64 x59.2.seed)], .box [.d (.cx .f32 f_.Feeder.Source.A.re f_.Feeder.Source.A.im), .d (.cx .f32 f_.Feeder.Source.B.re f_.Feeder.Source.B.im), .d (.cx .f32 f_.Feeder.Source.C.re f_.Feeder.Source.C.im), .row 2 f_.Feeder.Buses.length 0 f_.Feeder.Buses.length, .row 3 f_.Taps.length 0 f_.Taps.length, .row 4 f_.List.length 0 f_.List.length], .row 8 (f_.Feeder.Buses.map eSBus), .row 5 (f_.Taps.map eSTap), .row 3 (f_.List.map eSOutage), .row 3 (([] : List SOutage).map eSOutage)]) rfl (by simp) rfl (by repeat' first | exact trivial | refine ⟨?_, ?_⟩) ⟨rfl, trivial, rfl, trivial, rfl, trivial, rfl, trivial, trivial⟩) ?_
      exact hk186 x59.1 h

def m_spec_l09Are_j1 (n : Nat) (list_ : List SOutage) : Option Bool :=
  some (decide ((list_.length : Int) ≤ (16 : Int)))
def m_spec_l09Are_j3 (n : Nat) (k51 : Int → Option Bool) (v41 : Int) : Option Bool :=
  k51 (w64 (v41 + (1 : Int)))
def m_spec_l09Are_j4 (n : Nat) (k51 : Int → Option Bool) (v41 : Int) (v68 : Bool) : Option Bool :=
  if v68 = true then
    some false
  else
    m_spec_l09Are_j3 n k51 v41
def m_spec_l09Are_l2 (n : Nat) (f_ : SDesk) (list_ : List SOutage) : Nat → Int → Option Bool
  | 0, _ => none
  | m50 + 1, v41 =>
    if v41 < (list_.length : Int) then
      (getI list_ v41).bind fun x61 =>
      (m_spec_l00In n x61.Bus (1 : Int) (w64 ((f_.Feeder.Buses.length : Int) - (1 : Int)))).bind fun x71 =>
      if x71 = true then
        (m_spec_l00In n x61.Until (1 : Int) (100000 : Int)).bind fun x73 =>
        if x73 = true then
          (m_spec_l00In n x61.From (0 : Int) (w64 (x61.Until - (1 : Int)))).bind fun x75 =>
          m_spec_l09Are_j4 n (m_spec_l09Are_l2 n f_ list_ m50) v41 (!x75)
        else
          m_spec_l09Are_j4 n (m_spec_l09Are_l2 n f_ list_ m50) v41 true
      else
        m_spec_l09Are_j4 n (m_spec_l09Are_l2 n f_ list_ m50) v41 true
    else
      m_spec_l09Are_j1 n list_
def m_spec_l09Are (n : Nat) (f_ : SDesk) (list_ : List SOutage) : Option Bool :=
  m_spec_l09Are_l2 n f_ list_ n (0 : Int)
theorem spec_l09Are_ok_fr0 (fr : Bool) (n : Nat) (f_ : SDesk) (list_ : List SOutage) {r : Bool} (h : m_spec_l09Are n f_ list_ = some r) : ACall prog fr 112 [.ptr 0 0, .d (.sl false (list_.map eSOutage))] [.box [.d (.cx .f32 f_.Feeder.Source.A.re f_.Feeder.Source.A.im), .d (.cx .f32 f_.Feeder.Source.B.re f_.Feeder.Source.B.im), .d (.cx .f32 f_.Feeder.Source.C.re f_.Feeder.Source.C.im), .row 1 f_.Feeder.Buses.length 0 f_.Feeder.Buses.length, .row 2 f_.Taps.length 0 f_.Taps.length, .row 3 f_.List.length 0 f_.List.length], .row 8 (f_.Feeder.Buses.map eSBus), .row 5 (f_.Taps.map eSTap), .row 3 (f_.List.map eSOutage)] (fun v o new => v = .d (.bool r) ∧ o = [.box [.d (.cx .f32 f_.Feeder.Source.A.re f_.Feeder.Source.A.im), .d (.cx .f32 f_.Feeder.Source.B.re f_.Feeder.Source.B.im), .d (.cx .f32 f_.Feeder.Source.C.re f_.Feeder.Source.C.im), .row 1 f_.Feeder.Buses.length 0 f_.Feeder.Buses.length, .row 2 f_.Taps.length 0 f_.Taps.length, .row 3 f_.List.length 0 f_.List.length], .row 8 (f_.Feeder.Buses.map eSBus), .row 5 (f_.Taps.map eSTap), .row 3 (f_.List.map eSOutage)] ∧ new = []) := by
  refine acall_of_aw hτ func112 rfl (by simp) (by simp) ?_
  unfold m_spec_l09Are at h
  refine aw_seq ?_
  refine aw_region ?_
  refine awl_val hτ rfl rfl rfl ?_
  refine awl_nil ?_
  refine aw_hk1 (ι := Unit) (fun _ => St.of [(1, .d (.sl false (list_.map eSOutage)))] [.box [.d (.cx .f32 f_.Feeder.Source.A.re f_.Feeder.Source.A.im), .d (.cx .f32 f_.Feeder.Source.B.re f_.Feeder.Source.B.im), .d (.cx .f32 f_.Feeder.Source.C.re f_.Feeder.Source.C.im), .row 1 f_.Feeder.Buses.length 0 f_.Feeder.Buses.length, .row 2 f_.Taps.length 0 f_.Taps.length, .row 3 f_.List.length 0 f_.List.length], .row 8 (f_.Feeder.Buses.map eSBus), .row 5 (f_.Taps.map eSTap), .row 3 (f_.List.map eSOutage)] f112.ntmps 4) (fun _ => m_spec_l09Are_j1 n list_ = some r) ?_ (fun hk33 => ?_)
  · rintro ⟨⟩ h
    replace h : m_spec_l09Are_j1 n list_ = some r := h
    unfold m_spec_l09Are_j1 at h
    refine aw_seq ?_
    refine aw_region ?_
    refine awl_val hτ rfl rfl rfl ?_
    refine awl_val hτ (v := .d (.int .i64 (list_.length : Int))) rfl rfl (Eq.trans rfl (or_len (f := eSOutage) list_)) ?_
    refine awl_val hτ rfl rfl rfl ?_
    refine awl_val hτ rfl rfl rfl ?_
    refine awl_nil ?_
    refine aw_weak (weak_ofP [0, 1, 2, 3] (l := [(4, .d (.bool (decide ((list_.length : Int) ≤ (16 : Int)))))]) (objs := [.box [.d (.cx .f32 f_.Feeder.Source.A.re f_.Feeder.Source.A.im), .d (.cx .f32 f_.Feeder.Source.B.re f_.Feeder.Source.B.im), .d (.cx .f32 f_.Feeder.Source.C.re f_.Feeder.Source.C.im), .row 1 f_.Feeder.Buses.length 0 f_.Feeder.Buses.length, .row 2 f_.Taps.length 0 f_.Taps.length, .row 3 f_.List.length 0 f_.List.length], .row 8 (f_.Feeder.Buses.map eSBus), .row 5 (f_.Taps.map eSTap), .row 3 (f_.List.map eSOutage)]) rfl (by simp) rfl (by repeat' first | exact trivial | refine ⟨?_, ?_⟩) ⟨rfl, trivial, trivial⟩) ?_
    refine aw_ret ?_
    have hr := Option.some.inj h
    subst hr
    exact ret_objs (.inr rfl) [] (objs' := [.box [.d (.cx .f32 f_.Feeder.Source.A.re f_.Feeder.Source.A.im), .d (.cx .f32 f_.Feeder.Source.B.re f_.Feeder.Source.B.im), .d (.cx .f32 f_.Feeder.Source.C.re f_.Feeder.Source.C.im), .row 1 f_.Feeder.Buses.length 0 f_.Feeder.Buses.length, .row 2 f_.Taps.length 0 f_.Taps.length, .row 3 f_.List.length 0 f_.List.length], .row 8 (f_.Feeder.Buses.map eSBus), .row 5 (f_.Taps.map eSTap), .row 3 (f_.List.map eSOutage)]) (new := []) rfl (by simp) (by simp) rfl (by repeat' first | exact trivial | refine ⟨?_, ?_⟩) rfl rfl (by repeat' first | exact trivial | refine ⟨?_, ?_⟩) (fun _ => ⟨by simp [V.flat, V.flatA, V.flatC, D.flat], (flat_cons (by simp [AObj.flat, V.flatC, D.flat]) (flat_cons (flat_row eSBus_flat _) (flat_cons (flat_row eSTap_flat _) (flat_cons (flat_row eSOutage_flat _) flat_nil))))⟩) ⟨rfl, rfl, rfl⟩
  · refine aw_seq ?_
    refine aw_seq ?_
    refine aw_region ?_
    refine awl_val hτ rfl rfl rfl ?_
    refine awl_val hτ (v := .d (.int .i64 (list_.length : Int))) rfl rfl (Eq.trans rfl (or_len (f := eSOutage) list_)) ?_
    refine awl_val hτ rfl rfl rfl ?_
    refine awl_nil ?_
    refine aw_block ?_
    refine aw_loop (ι := Nat × Int) (fun (m50, v41) => St.of [(0, .ptr 0 0), (1, .d (.sl false (list_.map eSOutage))), (8, .d (.int .i64 (list_.length : Int))), (9, .d (.int .i64 v41))] [.box [.d (.cx .f32 f_.Feeder.Source.A.re f_.Feeder.Source.A.im), .d (.cx .f32 f_.Feeder.Source.B.re f_.Feeder.Source.B.im), .d (.cx .f32 f_.Feeder.Source.C.re f_.Feeder.Source.C.im), .row 1 f_.Feeder.Buses.length 0 f_.Feeder.Buses.length, .row 2 f_.Taps.length 0 f_.Taps.length, .row 3 f_.List.length 0 f_.List.length], .row 8 (f_.Feeder.Buses.map eSBus), .row 5 (f_.Taps.map eSTap), .row 3 (f_.List.map eSOutage)] f112.ntmps 4) (fun (m50, v41) => m_spec_l09Are_l2 n f_ list_ m50 v41 = some r) (fun x => x.1) (n, (0 : Int)) h (weak_ofP [0, 1, 2, 3] (l := [(0, .ptr 0 0), (1, .d (.sl false (list_.map eSOutage))), (8, .d (.int .i64 (list_.length : Int))), (9, .d (.int .i64 (0 : Int)))]) (objs := [.box [.d (.cx .f32 f_.Feeder.Source.A.re f_.Feeder.Source.A.im), .d (.cx .f32 f_.Feeder.Source.B.re f_.Feeder.Source.B.im), .d (.cx .f32 f_.Feeder.Source.C.re f_.Feeder.Source.C.im), .row 1 f_.Feeder.Buses.length 0 f_.Feeder.Buses.length, .row 2 f_.Taps.length 0 f_.Taps.length, .row 3 f_.List.length 0 f_.List.length], .row 8 (f_.Feeder.Buses.map eSBus), .row 5 (f_.Taps.map eSTap), .row 3 (f_.List.map eSOutage)]) rfl (by simp) rfl (by repeat' first | exact trivial | refine ⟨?_, ?_⟩) ⟨rfl, trivial, rfl, trivial, rfl, trivial, rfl, trivial, trivial⟩) ?_
    rintro ⟨m50, v41⟩ h
    replace h : m_spec_l09Are_l2 n f_ list_ m50 v41 = some r := h
    rcases m50 with _ | m50
    · rw [m_spec_l09Are_l2] at h; cases h
    rw [m_spec_l09Are_l2] at h
    refine aw_seq ?_
    refine aw_region ?_
    refine awl_val hτ rfl rfl rfl ?_
    refine awl_nil ?_
    refine aw_seq ?_
    refine aw_cond rfl (fun hc52 => ?_) (fun hc52 => ?_)
    · have h := if_t h hc52
      refine aw_skip ?_
      refine aw_hk1 (ι := Unit) (fun _ => St.of [(0, .ptr 0 0), (1, .d (.sl false (list_.map eSOutage))), (8, .d (.int .i64 (list_.length : Int))), (9, .d (.int .i64 v41))] [.box [.d (.cx .f32 f_.Feeder.Source.A.re f_.Feeder.Source.A.im), .d (.cx .f32 f_.Feeder.Source.B.re f_.Feeder.Source.B.im), .d (.cx .f32 f_.Feeder.Source.C.re f_.Feeder.Source.C.im), .row 1 f_.Feeder.Buses.length 0 f_.Feeder.Buses.length, .row 2 f_.Taps.length 0 f_.Taps.length, .row 3 f_.List.length 0 f_.List.length], .row 8 (f_.Feeder.Buses.map eSBus), .row 5 (f_.Taps.map eSTap), .row 3 (f_.List.map eSOutage)] f112.ntmps 4) (fun _ => m_spec_l09Are_j3 n (m_spec_l09Are_l2 n f_ list_ m50) v41 = some r) ?_ (fun hk60 => ?_)
      · rintro ⟨⟩ h
        replace h : m_spec_l09Are_j3 n (m_spec_l09Are_l2 n f_ list_ m50) v41 = some r := h
        unfold m_spec_l09Are_j3 at h
        refine aw_region ?_
        refine awl_val hτ rfl rfl rfl ?_
        refine awl_val hτ rfl rfl rfl ?_
        refine awl_nil ?_
        exact ⟨(m50, (w64 (v41 + (1 : Int)))), h, Nat.lt_succ_self m50, (weak_ofP [0, 1, 2, 3] (l := [(0, .ptr 0 0), (1, .d (.sl false (list_.map eSOutage))), (8, .d (.int .i64 (list_.length : Int))), (9, .d (.int .i64 (w64 (v41 + (1 : Int)))))]) (objs := [.box [.d (.cx .f32 f_.Feeder.Source.A.re f_.Feeder.Source.A.im), .d (.cx .f32 f_.Feeder.Source.B.re f_.Feeder.Source.B.im), .d (.cx .f32 f_.Feeder.Source.C.re f_.Feeder.Source.C.im), .row 1 f_.Feeder.Buses.length 0 f_.Feeder.Buses.length, .row 2 f_.Taps.length 0 f_.Taps.length, .row 3 f_.List.length 0 f_.List.length], .row 8 (f_.Feeder.Buses.map eSBus), .row 5 (f_.Taps.map eSTap), .row 3 (f_.List.map eSOutage)]) rfl (by simp) rfl (by repeat' first | exact trivial | refine ⟨?_, ?_⟩) ⟨rfl, trivial, rfl, trivial, rfl, trivial, rfl, trivial, trivial⟩)⟩
      · refine aw_seq ?_
        refine aw_block ?_
        refine aw_seq ?_
        refine aw_region ?_
        refine awl_val hτ rfl rfl rfl ?_
        refine awl_val hτ rfl rfl rfl ?_
        refine awl_nil ?_
        refine aw_seq ?_
        refine aw_region ?_
        refine awl_val hτ rfl rfl rfl ?_
        refine awl_val hτ rfl rfl rfl ?_
        refine bnd_elim h fun x61 hx61 h => ?_
        refine awl_elem hτ rfl rfl rfl (getI_some hx61).1 (map_getI hx61) rfl ?_
        refine awl_val hτ rfl rfl rfl ?_
        refine awl_valH hτ rfl rfl rfl ?_
        refine awl_valH hτ rfl rfl rfl ?_
        refine awl_nil ?_
        refine aw_hk1 (ι := Bool) (fun v68 => St.of [(0, .ptr 0 0), (1, .d (.sl false (list_.map eSOutage))), (8, .d (.int .i64 (list_.length : Int))), (9, .d (.int .i64 v41)), (40, .d (.bool v68))] [.box [.d (.cx .f32 f_.Feeder.Source.A.re f_.Feeder.Source.A.im), .d (.cx .f32 f_.Feeder.Source.B.re f_.Feeder.Source.B.im), .d (.cx .f32 f_.Feeder.Source.C.re f_.Feeder.Source.C.im), .row 1 f_.Feeder.Buses.length 0 f_.Feeder.Buses.length, .row 2 f_.Taps.length 0 f_.Taps.length, .row 3 f_.List.length 0 f_.List.length], .row 8 (f_.Feeder.Buses.map eSBus), .row 5 (f_.Taps.map eSTap), .row 3 (f_.List.map eSOutage)] f112.ntmps 4) (fun v68 => m_spec_l09Are_j4 n (m_spec_l09Are_l2 n f_ list_ m50) v41 v68 = some r) ?_ (fun hk70 => ?_)
        · rintro v68 h
          replace h : m_spec_l09Are_j4 n (m_spec_l09Are_l2 n f_ list_ m50) v41 v68 = some r := h
          unfold m_spec_l09Are_j4 at h
          refine aw_cond rfl (fun hc69 => ?_) (fun hc69 => ?_)
          · have h := if_bt h hc69
            refine aw_seq ?_
            refine aw_region ?_
            refine awl_val hτ rfl rfl rfl ?_
            refine awl_nil ?_
            refine aw_weak (weak_ofP [0, 1, 2, 3] (l := [(4, .d (.bool false))]) (objs := [.box [.d (.cx .f32 f_.Feeder.Source.A.re f_.Feeder.Source.A.im), .d (.cx .f32 f_.Feeder.Source.B.re f_.Feeder.Source.B.im), .d (.cx .f32 f_.Feeder.Source.C.re f_.Feeder.Source.C.im), .row 1 f_.Feeder.Buses.length 0 f_.Feeder.Buses.length, .row 2 f_.Taps.length 0 f_.Taps.length, .row 3 f_.List.length 0 f_.List.length], .row 8 (f_.Feeder.Buses.map eSBus), .row 5 (f_.Taps.map eSTap), .row 3 (f_.List.map eSOutage)]) rfl (by simp) rfl (by repeat' first | exact trivial | refine ⟨?_, ?_⟩) ⟨rfl, trivial, trivial⟩) ?_
            refine aw_ret ?_
            have hr := Option.some.inj h
            subst hr
            exact ret_objs (.inr rfl) [] (objs' := [.box [.d (.cx .f32 f_.Feeder.Source.A.re f_.Feeder.Source.A.im), .d (.cx .f32 f_.Feeder.Source.B.re f_.Feeder.Source.B.im), .d (.cx .f32 f_.Feeder.Source.C.re f_.Feeder.Source.C.im), .row 1 f_.Feeder.Buses.length 0 f_.Feeder.Buses.length, .row 2 f_.Taps.length 0 f_.Taps.length, .row 3 f_.List.length 0 f_.List.length], .row 8 (f_.Feeder.Buses.map eSBus), .row 5 (f_.Taps.map eSTap), .row 3 (f_.List.map eSOutage)]) (new := []) rfl (by simp) (by simp) rfl (by repeat' first | exact trivial | refine ⟨?_, ?_⟩) rfl rfl (by repeat' first | exact trivial | refine ⟨?_, ?_⟩) (fun _ => ⟨by simp [V.flat, V.flatA, V.flatC, D.flat], (flat_cons (by simp [AObj.flat, V.flatC, D.flat]) (flat_cons (flat_row eSBus_flat _) (flat_cons (flat_row eSTap_flat _) (flat_cons (flat_row eSOutage_flat _) flat_nil))))⟩) ⟨rfl, rfl, rfl⟩
          · have h := if_bf h hc69
            refine aw_skip ?_
            refine aw_weak (weak_ofP [0, 1, 2, 3] (l := [(0, .ptr 0 0), (1, .d (.sl false (list_.map eSOutage))), (8, .d (.int .i64 (list_.length : Int))), (9, .d (.int .i64 v41))]) (objs := [.box [.d (.cx .f32 f_.Feeder.Source.A.re f_.Feeder.Source.A.im), .d (.cx .f32 f_.Feeder.Source.B.re f_.Feeder.Source.B.im), .d (.cx .f32 f_.Feeder.Source.C.re f_.Feeder.Source.C.im), .row 1 f_.Feeder.Buses.length 0 f_.Feeder.Buses.length, .row 2 f_.Taps.length 0 f_.Taps.length, .row 3 f_.List.length 0 f_.List.length], .row 8 (f_.Feeder.Buses.map eSBus), .row 5 (f_.Taps.map eSTap), .row 3 (f_.List.map eSOutage)]) rfl (by simp) rfl (by repeat' first | exact trivial | refine ⟨?_, ?_⟩) ⟨rfl, trivial, rfl, trivial, rfl, trivial, rfl, trivial, trivial⟩) ?_
            exact hk60 () h
        · refine aw_seq ?_
          refine aw_weak (weak_ofP [0, 1, 2, 3, 4] (l := [(0, .ptr 0 0), (1, .d (.sl false (list_.map eSOutage))), (6, .ptr 4 0), (8, .d (.int .i64 (list_.length : Int))), (9, .d (.int .i64 v41))]) (objs := [.box [.d (.cx .f32 f_.Feeder.Source.A.re f_.Feeder.Source.A.im), .d (.cx .f32 f_.Feeder.Source.B.re f_.Feeder.Source.B.im), .d (.cx .f32 f_.Feeder.Source.C.re f_.Feeder.Source.C.im), .row 1 f_.Feeder.Buses.length 0 f_.Feeder.Buses.length, .row 2 f_.Taps.length 0 f_.Taps.length, .row 3 f_.List.length 0 f_.List.length], .row 8 (f_.Feeder.Buses.map eSBus), .row 5 (f_.Taps.map eSTap), .row 3 (f_.List.map eSOutage), .box [.d (.int .i64 x61.Bus), .d (.int .i64 x61.From), .d (.int .i64 x61.Until)]]) rfl (by simp) rfl (by repeat' first | exact trivial | refine ⟨?_, ?_⟩) ⟨rfl, trivial, rfl, trivial, rfl, trivial, rfl, trivial, rfl, trivial, trivial⟩) ?_
          refine any_start ?_
          refine any_val hτ [4] 0 rfl rfl rfl rfl rfl ?_
          refine any_val hτ [4] 1 rfl rfl rfl rfl rfl ?_
          refine any_val hτ [] 2 rfl rfl rfl rfl rfl ?_
          refine any_val hτ [] 3 rfl rfl rfl rfl rfl ?_
          refine any_val hτ [0] 4 rfl rfl rfl rfl rfl ?_
          refine any_val hτ [0] 5 rfl rfl rfl rfl rfl ?_
          refine any_need hτ [1] 6 rfl rfl rfl rfl rfl (len_map _) ?_
          refine any_val hτ [] 7 rfl rfl rfl rfl rfl ?_
          refine bnd_elim h fun x71 hx71 h => ?_
          refine any_callP hτ false [] [0, 1, 2, 3, 4] 8 rfl rfl rfl rfl (enterOk func128 rfl rfl) rfl rfl (by simp) ⟨trivial, trivial, trivial, trivial⟩ (by repeat' first | exact trivial | refine ⟨?_, ?_⟩) (spec_l00In_ok n x61.Bus (1 : Int) (w64 ((f_.Feeder.Buses.length : Int) - (1 : Int))) hx71) ⟨rfl, rfl, rfl, rfl, rfl, trivial⟩ ?_
          refine any_val hτ [] 9 rfl rfl rfl rfl rfl ?_
          refine any_val hτ [] 10 rfl rfl rfl rfl rfl ?_
          refine any_split 26 rfl (fun hb72 => ?_) (fun hb72 => ?_)
          · have hb72 := not_t hb72
            have h := if_bf h hb72
            refine any_skip 11 rfl rfl rfl ?_
            refine any_skip 12 rfl rfl rfl ?_
            refine any_skip 13 rfl rfl rfl ?_
            refine any_skip 14 rfl rfl rfl ?_
            refine any_val hτ [] 15 rfl rfl rfl rfl rfl ?_
            refine any_val hτ [] 16 rfl rfl rfl rfl rfl ?_
            refine any_skip 17 rfl rfl rfl ?_
            refine any_skip 18 rfl rfl rfl ?_
            refine any_skip 19 rfl rfl rfl ?_
            refine any_skip 20 rfl rfl rfl ?_
            refine any_skip 21 rfl rfl rfl ?_
            refine any_skip 22 rfl rfl rfl ?_
            refine any_skip 23 rfl rfl rfl ?_
            refine any_val hτ [] 24 rfl rfl rfl rfl rfl ?_
            refine any_done mixed (by kernel_rfl) ?_
            refine aw_weak (weak_ofP [0, 1, 2, 3] (l := [(0, .ptr 0 0), (1, .d (.sl false (list_.map eSOutage))), (8, .d (.int .i64 (list_.length : Int))), (9, .d (.int .i64 v41)), (40, .d (.bool true))]) (objs := [.box [.d (.cx .f32 f_.Feeder.Source.A.re f_.Feeder.Source.A.im), .d (.cx .f32 f_.Feeder.Source.B.re f_.Feeder.Source.B.im), .d (.cx .f32 f_.Feeder.Source.C.re f_.Feeder.Source.C.im), .row 1 f_.Feeder.Buses.length 0 f_.Feeder.Buses.length, .row 2 f_.Taps.length 0 f_.Taps.length, .row 3 f_.List.length 0 f_.List.length], .row 8 (f_.Feeder.Buses.map eSBus), .row 5 (f_.Taps.map eSTap), .row 3 (f_.List.map eSOutage)]) rfl (by simp) rfl (by repeat' first | exact trivial | refine ⟨?_, ?_⟩) ⟨rfl, trivial, rfl, trivial, rfl, trivial, rfl, trivial, rfl, trivial, trivial⟩) ?_
            exact hk70 true h
          · have hb72 := not_f hb72
            have h := if_bt h hb72
            refine any_val hτ [4] 11 rfl rfl rfl rfl rfl ?_
            refine any_val hτ [4] 12 rfl rfl rfl rfl rfl ?_
            refine bnd_elim h fun x73 hx73 h => ?_
            refine any_callP hτ false [] [0, 1, 2, 3, 4] 13 rfl rfl rfl rfl (enterOk func128 rfl rfl) rfl rfl (by simp) ⟨trivial, trivial, trivial, trivial⟩ (by repeat' first | exact trivial | refine ⟨?_, ?_⟩) (spec_l00In_ok n x61.Until (1 : Int) (100000 : Int) hx73) ⟨rfl, rfl, rfl, rfl, rfl, trivial⟩ ?_
            refine any_val hτ [] 14 rfl rfl rfl rfl rfl ?_
            refine any_val hτ [] 15 rfl rfl rfl rfl rfl ?_
            refine any_val hτ [] 16 rfl rfl rfl rfl rfl ?_
            refine any_split 32 rfl (fun hb74 => ?_) (fun hb74 => ?_)
            · have hb74 := not_t hb74
              have h := if_bf h hb74
              refine any_skip 17 rfl rfl rfl ?_
              refine any_skip 18 rfl rfl rfl ?_
              refine any_skip 19 rfl rfl rfl ?_
              refine any_skip 20 rfl rfl rfl ?_
              refine any_skip 21 rfl rfl rfl ?_
              refine any_skip 22 rfl rfl rfl ?_
              refine any_skip 23 rfl rfl rfl ?_
              refine any_val hτ [] 24 rfl rfl rfl rfl rfl ?_
              refine any_done mixed (by kernel_rfl) ?_
              refine aw_weak (weak_ofP [0, 1, 2, 3] (l := [(0, .ptr 0 0), (1, .d (.sl false (list_.map eSOutage))), (8, .d (.int .i64 (list_.length : Int))), (9, .d (.int .i64 v41)), (40, .d (.bool true))]) (objs := [.box [.d (.cx .f32 f_.Feeder.Source.A.re f_.Feeder.Source.A.im), .d (.cx .f32 f_.Feeder.Source.B.re f_.Feeder.Source.B.im), .d (.cx .f32 f_.Feeder.Source.C.re f_.Feeder.Source.C.im), .row 1 f_.Feeder.Buses.length 0 f_.Feeder.Buses.length, .row 2 f_.Taps.length 0 f_.Taps.length, .row 3 f_.List.length 0 f_.List.length], .row 8 (f_.Feeder.Buses.map eSBus), .row 5 (f_.Taps.map eSTap), .row 3 (f_.List.map eSOutage)]) rfl (by simp) rfl (by repeat' first | exact trivial | refine ⟨?_, ?_⟩) ⟨rfl, trivial, rfl, trivial, rfl, trivial, rfl, trivial, rfl, trivial, trivial⟩) ?_
              exact hk70 true h
            · have hb74 := not_f hb74
              have h := if_bt h hb74
              refine any_val hτ [4] 17 rfl rfl rfl rfl rfl ?_
              refine any_val hτ [4] 18 rfl rfl rfl rfl rfl ?_
              refine any_val hτ [4] 19 rfl rfl rfl rfl rfl ?_
              refine any_val hτ [4] 20 rfl rfl rfl rfl rfl ?_
              refine any_val hτ [] 21 rfl rfl rfl rfl rfl ?_
              refine bnd_elim h fun x75 hx75 h => ?_
              refine any_callP hτ false [] [0, 1, 2, 3, 4] 22 rfl rfl rfl rfl (enterOk func128 rfl rfl) rfl rfl (by simp) ⟨trivial, trivial, trivial, trivial⟩ (by repeat' first | exact trivial | refine ⟨?_, ?_⟩) (spec_l00In_ok n x61.From (0 : Int) (w64 (x61.Until - (1 : Int))) hx75) ⟨rfl, rfl, rfl, rfl, rfl, trivial⟩ ?_
              refine any_val hτ [] 23 rfl rfl rfl rfl rfl ?_
              refine any_val hτ [] 24 rfl rfl rfl rfl rfl ?_
              refine any_done mixed (by kernel_rfl) ?_
              refine aw_weak (weak_ofP [0, 1, 2, 3] (l := [(0, .ptr 0 0), (1, .d (.sl false (list_.map eSOutage))), (8, .d (.int .i64 (list_.length : Int))), (9, .d (.int .i64 v41)), (40, .d (.bool (!x75)))]) (objs := [.box [.d (.cx .f32 f_.Feeder.Source.A.re f_.Feeder.Source.A.im), .d (.cx .f32 f_.Feeder.Source.B.re f_.Feeder.Source.B.im), .d (.cx .f32 f_.Feeder.Source.C.re f_.Feeder.Source.C.im), .row 1 f_.Feeder.Buses.length 0 f_.Feeder.Buses.length, .row 2 f_.Taps.length 0 f_.Taps.length, .row 3 f_.List.length 0 f_.List.length], .row 8 (f_.Feeder.Buses.map eSBus), .row 5 (f_.Taps.map eSTap), .row 3 (f_.List.map eSOutage)]) rfl (by simp) rfl (by repeat' first | exact trivial | refine ⟨?_, ?_⟩) ⟨rfl, trivial, rfl, trivial, rfl, trivial, rfl, trivial, rfl, trivial, trivial⟩) ?_
              exact hk70 (!x75) h
    · have h := if_f h hc52
      refine aw_exit ?_
      refine aw_weak (weak_ofP [0, 1, 2, 3] (l := [(1, .d (.sl false (list_.map eSOutage)))]) (objs := [.box [.d (.cx .f32 f_.Feeder.Source.A.re f_.Feeder.Source.A.im), .d (.cx .f32 f_.Feeder.Source.B.re f_.Feeder.Source.B.im), .d (.cx .f32 f_.Feeder.Source.C.re f_.Feeder.Source.C.im), .row 1 f_.Feeder.Buses.length 0 f_.Feeder.Buses.length, .row 2 f_.Taps.length 0 f_.Taps.length, .row 3 f_.List.length 0 f_.List.length], .row 8 (f_.Feeder.Buses.map eSBus), .row 5 (f_.Taps.map eSTap), .row 3 (f_.List.map eSOutage)]) rfl (by simp) rfl (by repeat' first | exact trivial | refine ⟨?_, ?_⟩) ⟨rfl, trivial, trivial⟩) ?_
      exact hk33 () h
theorem spec_l09Are_ok (n : Nat) (f_ : SDesk) (list_ : List SOutage) {r : Bool} (h : m_spec_l09Are n f_ list_ = some r) : ACall prog false 112 [.ptr 0 0, .d (.sl false (list_.map eSOutage))] [.box [.d (.cx .f32 f_.Feeder.Source.A.re f_.Feeder.Source.A.im), .d (.cx .f32 f_.Feeder.Source.B.re f_.Feeder.Source.B.im), .d (.cx .f32 f_.Feeder.Source.C.re f_.Feeder.Source.C.im), .row 1 f_.Feeder.Buses.length 0 f_.Feeder.Buses.length, .row 2 f_.Taps.length 0 f_.Taps.length, .row 3 f_.List.length 0 f_.List.length], .row 8 (f_.Feeder.Buses.map eSBus), .row 5 (f_.Taps.map eSTap), .row 3 (f_.List.map eSOutage)] (fun v o new => v = .d (.bool r) ∧ o = [.box [.d (.cx .f32 f_.Feeder.Source.A.re f_.Feeder.Source.A.im), .d (.cx .f32 f_.Feeder.Source.B.re f_.Feeder.Source.B.im), .d (.cx .f32 f_.Feeder.Source.C.re f_.Feeder.Source.C.im), .row 1 f_.Feeder.Buses.length 0 f_.Feeder.Buses.length, .row 2 f_.Taps.length 0 f_.Taps.length, .row 3 f_.List.length 0 f_.List.length], .row 8 (f_.Feeder.Buses.map eSBus), .row 5 (f_.Taps.map eSTap), .row 3 (f_.List.map eSOutage)] ∧ new = []) := spec_l09Are_ok_fr0 false n f_ list_ h
theorem spec_l09Are_ok_fr (n : Nat) (f_ : SDesk) (list_ : List SOutage) {r : Bool} (h : m_spec_l09Are n f_ list_ = some r) : ACall prog true 112 [.ptr 0 0, .d (.sl false (list_.map eSOutage))] [.box [.d (.cx .f32 f_.Feeder.Source.A.re f_.Feeder.Source.A.im), .d (.cx .f32 f_.Feeder.Source.B.re f_.Feeder.Source.B.im), .d (.cx .f32 f_.Feeder.Source.C.re f_.Feeder.Source.C.im), .row 1 f_.Feeder.Buses.length 0 f_.Feeder.Buses.length, .row 2 f_.Taps.length 0 f_.Taps.length, .row 3 f_.List.length 0 f_.List.length], .row 8 (f_.Feeder.Buses.map eSBus), .row 5 (f_.Taps.map eSTap), .row 3 (f_.List.map eSOutage)] (fun v o new => v = .d (.bool r) ∧ o = [.box [.d (.cx .f32 f_.Feeder.Source.A.re f_.Feeder.Source.A.im), .d (.cx .f32 f_.Feeder.Source.B.re f_.Feeder.Source.B.im), .d (.cx .f32 f_.Feeder.Source.C.re f_.Feeder.Source.C.im), .row 1 f_.Feeder.Buses.length 0 f_.Feeder.Buses.length, .row 2 f_.Taps.length 0 f_.Taps.length, .row 3 f_.List.length 0 f_.List.length], .row 8 (f_.Feeder.Buses.map eSBus), .row 5 (f_.Taps.map eSTap), .row 3 (f_.List.map eSOutage)] ∧ new = []) := spec_l09Are_ok_fr0 true n f_ list_ h

def m_spec_l11DrawOk_j2 (n : Nat) (x8 : SFeeder × SL00Src) (v12 : List STap) (x13 : List SOutage × SL00Src) (v16 : List SOutage) : Option (SDesk × SL00Src) :=
  some ((SDesk.mk (SFeeder.mk x8.1.Source x8.1.Buses) v12 v16), x13.2)
def m_spec_l11DrawOk_j1 (n : Nat) (x8 : SFeeder × SL00Src) (x9 : List STap × SL00Src) (v12 : List STap) : Option (SDesk × SL00Src) :=
  (m_spec_l09DrawOutages n x9.2 (SDesk.mk (SFeeder.mk x8.1.Source x8.1.Buses) v12 ([] : List SOutage))).bind fun x13 =>
  (m_spec_l09Are n (SDesk.mk (SFeeder.mk x8.1.Source x8.1.Buses) v12 ([] : List SOutage)) x13.1).bind fun x18 =>
  if x18 = true then
    m_spec_l11DrawOk_j2 n x8 v12 x13 x13.1
  else
    m_spec_l11DrawOk_j2 n x8 v12 x13 ([] : List SOutage)
def m_spec_l11DrawOk (n : Nat) (s_ : SL00Src) : Option (SDesk × SL00Src) :=
  (m_spec_l02DrawOk n s_).bind fun x8 =>
  (m_spec_l05DrawTaps n x8.2 (SDesk.mk (SFeeder.mk x8.1.Source x8.1.Buses) ([] : List STap) ([] : List SOutage))).bind fun x9 =>
  (m_spec_l05Are n (SDesk.mk (SFeeder.mk x8.1.Source x8.1.Buses) ([] : List STap) ([] : List SOutage)) x9.1).bind fun x21 =>
  if x21 = true then
    m_spec_l11DrawOk_j1 n x8 x9 x9.1
  else
    m_spec_l11DrawOk_j1 n x8 x9 ([] : List STap)
theorem spec_l11DrawOk_ok (n : Nat) (s_ : SL00Src) {r : SDesk × SL00Src} (h : m_spec_l11DrawOk n s_ = some r) : ACall prog false 79 [.ptr 0 0] [.box [.d (.sl false (s_.code.map eIntu8)), .d (.int .i64 s_.at_), .d (.int .u64 s_.seed)]] (fun v o new => v = .agg [.d (.cx .f32 r.1.Feeder.Source.A.re r.1.Feeder.Source.A.im), .d (.cx .f32 r.1.Feeder.Source.B.re r.1.Feeder.Source.B.im), .d (.cx .f32 r.1.Feeder.Source.C.re r.1.Feeder.Source.C.im), .row 1 r.1.Feeder.Buses.length 0 r.1.Feeder.Buses.length, .row 2 r.1.Taps.length 0 r.1.Taps.length, .row 3 r.1.List.length 0 r.1.List.length] ∧ o = [.box [.d (.sl false (r.2.code.map eIntu8)), .d (.int .i64 r.2.at_), .d (.int .u64 r.2.seed)]] ∧ new = [.row 8 (r.1.Feeder.Buses.map eSBus), .row 5 (r.1.Taps.map eSTap), .row 3 (r.1.List.map eSOutage)]) := by
  refine acall_of_aw hτ func79 rfl (by simp) (by simp) ?_
  unfold m_spec_l11DrawOk at h
  refine aw_seq ?_
  refine aw_region ?_
  refine awl_valH hτ rfl rfl rfl ?_
  refine awl_nil ?_
  refine aw_seq ?_
  refine aw_region ?_
  refine awl_val hτ rfl rfl rfl ?_
  refine bnd_elim h fun x8 hx8 h => ?_
  refine awl_callP hτ false [0] rfl rfl rfl (enterOk func108 rfl rfl) rfl rfl (by simp) ⟨trivial, trivial⟩ (by repeat' first | exact trivial | refine ⟨?_, ?_⟩) (spec_l02DrawOk_ok n s_ hx8) ?_
  rintro r0 o0 n0 ⟨rfl, rfl, rfl⟩ -
  refine awl_valH hτ rfl rfl rfl ?_
  refine awl_valH hτ rfl rfl rfl ?_
  refine awl_val hτ rfl rfl rfl ?_
  refine awl_valH hτ rfl rfl rfl ?_
  refine awl_valH hτ rfl rfl rfl ?_
  refine awl_nil ?_
  refine aw_seq ?_
  refine aw_weak (weak_ofP [0, 1, 5, 2, 3, 4] (l := [(0, .ptr 0 0), (2, .ptr 1 0), (3, .ptr 2 0)]) (objs := [.box [.d (.sl false (x8.2.code.map eIntu8)), .d (.int .i64 x8.2.at_), .d (.int .u64 x8.2.seed)], .box [.d (.cx .f32 (0 : Nat) (0 : Nat)), .d (.cx .f32 (0 : Nat) (0 : Nat)), .d (.cx .f32 (0 : Nat) (0 : Nat)), .d (.nils), .d (.nils), .d (.nils)], .box [.d (.cx .f32 x8.1.Source.A.re x8.1.Source.A.im), .d (.cx .f32 x8.1.Source.B.re x8.1.Source.B.im), .d (.cx .f32 x8.1.Source.C.re x8.1.Source.C.im), .row 3 x8.1.Buses.length 0 x8.1.Buses.length, .row 4 (([] : List STap).length) 0 (([] : List STap).length), .row 5 (([] : List SOutage).length) 0 (([] : List SOutage).length)], .row 8 (x8.1.Buses.map eSBus), .row 5 (([] : List STap).map eSTap), .row 3 (([] : List SOutage).map eSOutage)]) rfl (by simp) rfl (by repeat' first | exact trivial | refine ⟨?_, ?_⟩) ⟨rfl, trivial, rfl, trivial, rfl, trivial, trivial⟩) ?_
  refine aw_region ?_
  refine awl_val hτ rfl rfl rfl ?_
  refine awl_val hτ rfl rfl rfl ?_
  refine bnd_elim h fun x9 hx9 h => ?_
  refine awl_callP hτ false [0, 2, 3, 4, 5] rfl rfl rfl (enterOk func109 rfl rfl) rfl rfl (by simp) ⟨trivial, trivial, trivial⟩ (by repeat' first | exact trivial | refine ⟨?_, ?_⟩) (spec_l05DrawTaps_ok n x8.2 (SDesk.mk (SFeeder.mk x8.1.Source x8.1.Buses) ([] : List STap) ([] : List SOutage)) hx9) ?_
  rintro r0 o0 n0 ⟨rfl, rfl, rfl⟩ -
  refine awl_val hτ rfl rfl rfl ?_
  refine awl_nil ?_
  refine aw_hk1 (ι := List STap) (fun v12 => St.of [(0, .ptr 0 0), (2, .ptr 1 0), (3, .ptr 2 0)] [.box [.d (.sl false (x9.2.code.map eIntu8)), .d (.int .i64 x9.2.at_), .d (.int .u64 x9.2.seed)], .box [.d (.cx .f32 (0 : Nat) (0 : Nat)), .d (.cx .f32 (0 : Nat) (0 : Nat)), .d (.cx .f32 (0 : Nat) (0 : Nat)), .d (.nils), .d (.nils), .d (.nils)], .box [.d (.cx .f32 x8.1.Source.A.re x8.1.Source.A.im), .d (.cx .f32 x8.1.Source.B.re x8.1.Source.B.im), .d (.cx .f32 x8.1.Source.C.re x8.1.Source.C.im), .row 3 x8.1.Buses.length 0 x8.1.Buses.length, .row 4 v12.length 0 v12.length, .row 5 (([] : List SOutage).length) 0 (([] : List SOutage).length)], .row 8 (x8.1.Buses.map eSBus), .row 5 (v12.map eSTap), .row 3 (([] : List SOutage).map eSOutage)] f79.ntmps 1) (fun v12 => m_spec_l11DrawOk_j1 n x8 x9 v12 = some r) ?_ (fun hk20 => ?_)
  · rintro v12 h
    replace h : m_spec_l11DrawOk_j1 n x8 x9 v12 = some r := h
    unfold m_spec_l11DrawOk_j1 at h
    refine aw_seq ?_
    refine aw_region ?_
    refine awl_val hτ rfl rfl rfl ?_
    refine awl_val hτ rfl rfl rfl ?_
    refine bnd_elim h fun x13 hx13 h => ?_
    refine awl_callP hτ false [0, 2, 3, 4, 5] rfl rfl rfl (enterOk func111 rfl rfl) rfl rfl (by simp) ⟨trivial, trivial, trivial⟩ (by repeat' first | exact trivial | refine ⟨?_, ?_⟩) (spec_l09DrawOutages_ok n x9.2 (SDesk.mk (SFeeder.mk x8.1.Source x8.1.Buses) v12 ([] : List SOutage)) hx13) ?_
    rintro r0 o0 n0 ⟨rfl, rfl, rfl⟩ -
    refine awl_val hτ rfl rfl rfl ?_
    refine awl_nil ?_
    refine aw_hk1 (ι := List SOutage) (fun v16 => St.of [(2, .ptr 1 0), (3, .ptr 2 0)] [.box [.d (.sl false (x13.2.code.map eIntu8)), .d (.int .i64 x13.2.at_), .d (.int .u64 x13.2.seed)], .box [.d (.cx .f32 (0 : Nat) (0 : Nat)), .d (.cx .f32 (0 : Nat) (0 : Nat)), .d (.cx .f32 (0 : Nat) (0 : Nat)), .d (.nils), .d (.nils), .d (.nils)], .box [.d (.cx .f32 x8.1.Source.A.re x8.1.Source.A.im), .d (.cx .f32 x8.1.Source.B.re x8.1.Source.B.im), .d (.cx .f32 x8.1.Source.C.re x8.1.Source.C.im), .row 3 x8.1.Buses.length 0 x8.1.Buses.length, .row 4 v12.length 0 v12.length, .row 5 v16.length 0 v16.length], .row 8 (x8.1.Buses.map eSBus), .row 5 (v12.map eSTap), .row 3 (v16.map eSOutage)] f79.ntmps 1) (fun v16 => m_spec_l11DrawOk_j2 n x8 v12 x13 v16 = some r) ?_ (fun hk17 => ?_)
    · rintro v16 h
      replace h : m_spec_l11DrawOk_j2 n x8 v12 x13 v16 = some r := h
      unfold m_spec_l11DrawOk_j2 at h
      refine aw_seq ?_
      refine aw_region ?_
      refine awl_val hτ rfl rfl rfl ?_
      refine awl_valH hτ rfl rfl rfl ?_
      refine awl_nil ?_
      refine aw_weak (weak_ofP [0, 1, 3, 4, 5] (l := [(2, .ptr 1 0)]) (objs := [.box [.d (.sl false (x13.2.code.map eIntu8)), .d (.int .i64 x13.2.at_), .d (.int .u64 x13.2.seed)], .box [.d (.cx .f32 x8.1.Source.A.re x8.1.Source.A.im), .d (.cx .f32 x8.1.Source.B.re x8.1.Source.B.im), .d (.cx .f32 x8.1.Source.C.re x8.1.Source.C.im), .row 2 x8.1.Buses.length 0 x8.1.Buses.length, .row 3 v12.length 0 v12.length, .row 4 v16.length 0 v16.length], .row 8 (x8.1.Buses.map eSBus), .row 5 (v12.map eSTap), .row 3 (v16.map eSOutage)]) rfl (by simp) rfl (by repeat' first | exact trivial | refine ⟨?_, ?_⟩) ⟨rfl, trivial, trivial⟩) ?_
      refine aw_ret ?_
      have hr := Option.some.inj h
      subst hr
      exact ret_objs (.inr rfl) [2, 3, 4] (objs' := [.box [.d (.sl false (x13.2.code.map eIntu8)), .d (.int .i64 x13.2.at_), .d (.int .u64 x13.2.seed)]]) (new := [.row 8 (x8.1.Buses.map eSBus), .row 5 (v12.map eSTap), .row 3 (v16.map eSOutage)]) rfl (by simp) (by simp) rfl (by repeat' first | exact trivial | refine ⟨?_, ?_⟩) rfl rfl (by repeat' first | exact trivial | refine ⟨?_, ?_⟩) (fun h => nomatch h) ⟨rfl, rfl, rfl⟩
    · refine aw_seq ?_
      refine aw_seq ?_
      refine aw_region ?_
      refine awl_val hτ rfl rfl rfl ?_
      refine awl_val hτ rfl rfl rfl ?_
      refine awl_weak (weak_ofP [0, 1, 2, 3, 4, 5, 6] (l := [(2, .ptr 1 0), (3, .ptr 2 0), (5, .row 6 x13.1.length 0 x13.1.length), (22, .ptr 2 0), (23, .row 6 x13.1.length 0 x13.1.length)]) (objs := [.box [.d (.sl false (x13.2.code.map eIntu8)), .d (.int .i64 x13.2.at_), .d (.int .u64 x13.2.seed)], .box [.d (.cx .f32 (0 : Nat) (0 : Nat)), .d (.cx .f32 (0 : Nat) (0 : Nat)), .d (.cx .f32 (0 : Nat) (0 : Nat)), .d (.nils), .d (.nils), .d (.nils)], .box [.d (.cx .f32 x8.1.Source.A.re x8.1.Source.A.im), .d (.cx .f32 x8.1.Source.B.re x8.1.Source.B.im), .d (.cx .f32 x8.1.Source.C.re x8.1.Source.C.im), .row 3 x8.1.Buses.length 0 x8.1.Buses.length, .row 4 v12.length 0 v12.length, .row 5 (([] : List SOutage).length) 0 (([] : List SOutage).length)], .row 8 (x8.1.Buses.map eSBus), .row 5 (v12.map eSTap), .row 3 (([] : List SOutage).map eSOutage), .row 3 (x13.1.map eSOutage)]) rfl (by simp) rfl (by repeat' first | exact trivial | refine ⟨?_, ?_⟩) ⟨rfl, trivial, rfl, trivial, rfl, trivial, rfl, trivial, rfl, trivial, trivial⟩) ?_
      refine bnd_elim h fun x18 hx18 h => ?_
      refine awl_callP hτ true [2, 3, 4, 5] rfl rfl rfl (enterOk func112 rfl rfl) (mapO_cons rfl (mapO_cons (exV_view (f := eSOutage) x13.1 rfl rfl rfl) mapO_nil)) rfl (by simp) ⟨trivial, (exVP_view (f := eSOutage) x13.1 rfl rfl rfl), trivial⟩ (by repeat' first | exact trivial | refine ⟨?_, ?_⟩) (spec_l09Are_ok_fr n (SDesk.mk (SFeeder.mk x8.1.Source x8.1.Buses) v12 ([] : List SOutage)) x13.1 hx18) ?_
      rintro r0 o0 n0 ⟨rfl, rfl, rfl⟩ -
      refine awl_nil ?_
      refine aw_cond rfl (fun hc19 => ?_) (fun hc19 => ?_)
      · have h := if_bt h hc19
        refine aw_region ?_
        refine awl_val hτ rfl rfl rfl ?_
        refine awl_val hτ rfl rfl rfl ?_
        refine awl_valH hτ rfl rfl rfl ?_
        refine awl_nil ?_
        refine aw_weak (weak_ofP [0, 1, 2, 3, 4, 6] (l := [(2, .ptr 1 0), (3, .ptr 2 0)]) (objs := [.box [.d (.sl false (x13.2.code.map eIntu8)), .d (.int .i64 x13.2.at_), .d (.int .u64 x13.2.seed)], .box [.d (.cx .f32 (0 : Nat) (0 : Nat)), .d (.cx .f32 (0 : Nat) (0 : Nat)), .d (.cx .f32 (0 : Nat) (0 : Nat)), .d (.nils), .d (.nils), .d (.nils)], .box [.d (.cx .f32 x8.1.Source.A.re x8.1.Source.A.im), .d (.cx .f32 x8.1.Source.B.re x8.1.Source.B.im), .d (.cx .f32 x8.1.Source.C.re x8.1.Source.C.im), .row 3 x8.1.Buses.length 0 x8.1.Buses.length, .row 4 v12.length 0 v12.length, .row 5 x13.1.length 0 x13.1.length], .row 8 (x8.1.Buses.map eSBus), .row 5 (v12.map eSTap), .row 3 (x13.1.map eSOutage)]) rfl (by simp) rfl (by repeat' first | exact trivial | refine ⟨?_, ?_⟩) ⟨rfl, trivial, rfl, trivial, trivial⟩) ?_
        exact hk17 x13.1 h
      · have h := if_bf h hc19
        refine aw_skip ?_
        refine aw_weak (weak_ofP [0, 1, 2, 3, 4, 5] (l := [(2, .ptr 1 0), (3, .ptr 2 0)]) (objs := [.box [.d (.sl false (x13.2.code.map eIntu8)), .d (.int .i64 x13.2.at_), .d (.int .u64 x13.2.seed)], .box [.d (.cx .f32 (0 : Nat) (0 : Nat)), .d (.cx .f32 (0 : Nat) (0 : Nat)), .d (.cx .f32 (0 : Nat) (0 : Nat)), .d (.nils), .d (.nils), .d (.nils)], .box [.d (.cx .f32 x8.1.Source.A.re x8.1.Source.A.im), .d (.cx .f32 x8.1.Source.B.re x8.1.Source.B.im), .d (.cx .f32 x8.1.Source.C.re x8.1.Source.C.im), .row 3 x8.1.Buses.length 0 x8.1.Buses.length, .row 4 v12.length 0 v12.length, .row 5 (([] : List SOutage).length) 0 (([] : List SOutage).length)], .row 8 (x8.1.Buses.map eSBus), .row 5 (v12.map eSTap), .row 3 (([] : List SOutage).map eSOutage)]) rfl (by simp) rfl (by repeat' first | exact trivial | refine ⟨?_, ?_⟩) ⟨rfl, trivial, rfl, trivial, trivial⟩) ?_
        exact hk17 ([] : List SOutage) h
  · refine aw_seq ?_
    refine aw_seq ?_
    refine aw_region ?_
    refine awl_val hτ rfl rfl rfl ?_
    refine awl_val hτ rfl rfl rfl ?_
    refine awl_weak (weak_ofP [0, 1, 2, 3, 4, 5, 6] (l := [(0, .ptr 0 0), (2, .ptr 1 0), (3, .ptr 2 0), (4, .row 6 x9.1.length 0 x9.1.length), (14, .ptr 2 0), (15, .row 6 x9.1.length 0 x9.1.length)]) (objs := [.box [.d (.sl false (x9.2.code.map eIntu8)), .d (.int .i64 x9.2.at_), .d (.int .u64 x9.2.seed)], .box [.d (.cx .f32 (0 : Nat) (0 : Nat)), .d (.cx .f32 (0 : Nat) (0 : Nat)), .d (.cx .f32 (0 : Nat) (0 : Nat)), .d (.nils), .d (.nils), .d (.nils)], .box [.d (.cx .f32 x8.1.Source.A.re x8.1.Source.A.im), .d (.cx .f32 x8.1.Source.B.re x8.1.Source.B.im), .d (.cx .f32 x8.1.Source.C.re x8.1.Source.C.im), .row 3 x8.1.Buses.length 0 x8.1.Buses.length, .row 4 (([] : List STap).length) 0 (([] : List STap).length), .row 5 (([] : List SOutage).length) 0 (([] : List SOutage).length)], .row 8 (x8.1.Buses.map eSBus), .row 5 (([] : List STap).map eSTap), .row 3 (([] : List SOutage).map eSOutage), .row 5 (x9.1.map eSTap)]) rfl (by simp) rfl (by repeat' first | exact trivial | refine ⟨?_, ?_⟩) ⟨rfl, trivial, rfl, trivial, rfl, trivial, rfl, trivial, rfl, trivial, rfl, trivial, trivial⟩) ?_
    refine bnd_elim h fun x21 hx21 h => ?_
    refine awl_callP hτ true [2, 3, 4, 5] rfl rfl rfl (enterOk func110 rfl rfl) (mapO_cons rfl (mapO_cons (exV_view (f := eSTap) x9.1 rfl rfl rfl) mapO_nil)) rfl (by simp) ⟨trivial, (exVP_view (f := eSTap) x9.1 rfl rfl rfl), trivial⟩ (by repeat' first | exact trivial | refine ⟨?_, ?_⟩) (spec_l05Are_ok_fr n (SDesk.mk (SFeeder.mk x8.1.Source x8.1.Buses) ([] : List STap) ([] : List SOutage)) x9.1 hx21) ?_
    rintro r0 o0 n0 ⟨rfl, rfl, rfl⟩ -
    refine awl_nil ?_
    refine aw_cond rfl (fun hc22 => ?_) (fun hc22 => ?_)
    · have h := if_bt h hc22
      refine aw_region ?_
      refine awl_val hτ rfl rfl rfl ?_
      refine awl_val hτ rfl rfl rfl ?_
      refine awl_valH hτ rfl rfl rfl ?_
      refine awl_nil ?_
      refine aw_weak (weak_ofP [0, 1, 2, 3, 6, 5] (l := [(0, .ptr 0 0), (2, .ptr 1 0), (3, .ptr 2 0)]) (objs := [.box [.d (.sl false (x9.2.code.map eIntu8)), .d (.int .i64 x9.2.at_), .d (.int .u64 x9.2.seed)], .box [.d (.cx .f32 (0 : Nat) (0 : Nat)), .d (.cx .f32 (0 : Nat) (0 : Nat)), .d (.cx .f32 (0 : Nat) (0 : Nat)), .d (.nils), .d (.nils), .d (.nils)], .box [.d (.cx .f32 x8.1.Source.A.re x8.1.Source.A.im), .d (.cx .f32 x8.1.Source.B.re x8.1.Source.B.im), .d (.cx .f32 x8.1.Source.C.re x8.1.Source.C.im), .row 3 x8.1.Buses.length 0 x8.1.Buses.length, .row 4 x9.1.length 0 x9.1.length, .row 5 (([] : List SOutage).length) 0 (([] : List SOutage).length)], .row 8 (x8.1.Buses.map eSBus), .row 5 (x9.1.map eSTap), .row 3 (([] : List SOutage).map eSOutage)]) rfl (by simp) rfl (by repeat' first | exact trivial | refine ⟨?_, ?_⟩) ⟨rfl, trivial, rfl, trivial, rfl, trivial, trivial⟩) ?_
      exact hk20 x9.1 h
    · have h := if_bf h hc22
      refine aw_skip ?_
      refine aw_weak (weak_ofP [0, 1, 2, 3, 4, 5] (l := [(0, .ptr 0 0), (2, .ptr 1 0), (3, .ptr 2 0)]) (objs := [.box [.d (.sl false (x9.2.code.map eIntu8)), .d (.int .i64 x9.2.at_), .d (.int .u64 x9.2.seed)], .box [.d (.cx .f32 (0 : Nat) (0 : Nat)), .d (.cx .f32 (0 : Nat) (0 : Nat)), .d (.cx .f32 (0 : Nat) (0 : Nat)), .d (.nils), .d (.nils), .d (.nils)], .box [.d (.cx .f32 x8.1.Source.A.re x8.1.Source.A.im), .d (.cx .f32 x8.1.Source.B.re x8.1.Source.B.im), .d (.cx .f32 x8.1.Source.C.re x8.1.Source.C.im), .row 3 x8.1.Buses.length 0 x8.1.Buses.length, .row 4 (([] : List STap).length) 0 (([] : List STap).length), .row 5 (([] : List SOutage).length) 0 (([] : List SOutage).length)], .row 8 (x8.1.Buses.map eSBus), .row 5 (([] : List STap).map eSTap), .row 3 (([] : List SOutage).map eSOutage)]) rfl (by simp) rfl (by repeat' first | exact trivial | refine ⟨?_, ?_⟩) ⟨rfl, trivial, rfl, trivial, rfl, trivial, trivial⟩) ?_
      exact hk20 ([] : List STap) h

def m_spec_B10Desk (n : Nat) (code_ : List Int) : Option SDesk :=
  (m_spec_l00From n code_).bind fun x3 =>
  (m_spec_l11DrawOk n x3).bind fun x4 =>
  some (SDesk.mk (SFeeder.mk x4.1.Feeder.Source x4.1.Feeder.Buses) x4.1.Taps x4.1.List)
theorem spec_B10Desk_ok_fr0 (fr : Bool) (n : Nat) (code_ : List Int) {r : SDesk} (h : m_spec_B10Desk n code_ = some r) : ACall prog fr 40 [.d (.sl false (code_.map eIntu8))] [] (fun v o new => v = .agg [.d (.cx .f32 r.Feeder.Source.A.re r.Feeder.Source.A.im), .d (.cx .f32 r.Feeder.Source.B.re r.Feeder.Source.B.im), .d (.cx .f32 r.Feeder.Source.C.re r.Feeder.Source.C.im), .row 0 r.Feeder.Buses.length 0 r.Feeder.Buses.length, .row 1 r.Taps.length 0 r.Taps.length, .row 2 r.List.length 0 r.List.length] ∧ o = [] ∧ new = [.row 8 (r.Feeder.Buses.map eSBus), .row 5 (r.Taps.map eSTap), .row 3 (r.List.map eSOutage)]) := by
  refine acall_of_aw hτ func40 rfl (by simp) (by simp) ?_
  unfold m_spec_B10Desk at h
  refine aw_seq ?_
  refine aw_region ?_
  refine awl_valH hτ rfl rfl rfl ?_
  refine awl_nil ?_
  refine aw_seq ?_
  refine aw_region ?_
  refine awl_val hτ rfl rfl rfl ?_
  refine bnd_elim h fun x3 hx3 h => ?_
  refine awl_callP hτ false [] rfl rfl rfl (enterOk func43 rfl rfl) rfl rfl (by simp) ⟨trivial, trivial⟩ (by repeat' first | exact trivial | refine ⟨?_, ?_⟩) (spec_l00From_ok n code_ hx3) ?_
  rintro r0 o0 n0 ⟨rfl, rfl, rfl⟩ -
  refine awl_val hτ rfl rfl rfl ?_
  refine awl_nil ?_
  refine aw_seq ?_
  refine aw_region ?_
  refine awl_val hτ rfl rfl rfl ?_
  refine bnd_elim h fun x4 hx4 h => ?_
  refine awl_callP hτ false [1] rfl rfl rfl (enterOk func79 rfl rfl) rfl rfl (by simp) ⟨trivial, trivial⟩ (by repeat' first | exact trivial | refine ⟨?_, ?_⟩) (spec_l11DrawOk_ok n x3 hx4) ?_
  rintro r0 o0 n0 ⟨rfl, rfl, rfl⟩ -
  refine awl_valH hτ rfl rfl rfl ?_
  refine awl_nil ?_
  refine aw_weak (weak_ofP [0, 2, 3, 4] (l := [(2, .ptr 0 0)]) (objs := [.box [.d (.cx .f32 x4.1.Feeder.Source.A.re x4.1.Feeder.Source.A.im), .d (.cx .f32 x4.1.Feeder.Source.B.re x4.1.Feeder.Source.B.im), .d (.cx .f32 x4.1.Feeder.Source.C.re x4.1.Feeder.Source.C.im), .row 1 x4.1.Feeder.Buses.length 0 x4.1.Feeder.Buses.length, .row 2 x4.1.Taps.length 0 x4.1.Taps.length, .row 3 x4.1.List.length 0 x4.1.List.length], .row 8 (x4.1.Feeder.Buses.map eSBus), .row 5 (x4.1.Taps.map eSTap), .row 3 (x4.1.List.map eSOutage)]) rfl (by simp) rfl (by repeat' first | exact trivial | refine ⟨?_, ?_⟩) ⟨rfl, trivial, trivial⟩) ?_
  refine aw_ret ?_
  have hr := Option.some.inj h
  subst hr
  exact ret_objs (.inr rfl) [1, 2, 3] (objs' := []) (new := [.row 8 (x4.1.Feeder.Buses.map eSBus), .row 5 (x4.1.Taps.map eSTap), .row 3 (x4.1.List.map eSOutage)]) rfl (by simp) (by simp) rfl (by repeat' first | exact trivial | refine ⟨?_, ?_⟩) rfl rfl (by repeat' first | exact trivial | refine ⟨?_, ?_⟩) (fun _ => ⟨by simp [V.flat, V.flatA, V.flatC, D.flat], (flat_cons (flat_row eSBus_flat _) (flat_cons (flat_row eSTap_flat _) (flat_cons (flat_row eSOutage_flat _) flat_nil)))⟩) ⟨rfl, rfl, rfl⟩
theorem spec_B10Desk_ok (n : Nat) (code_ : List Int) {r : SDesk} (h : m_spec_B10Desk n code_ = some r) : ACall prog false 40 [.d (.sl false (code_.map eIntu8))] [] (fun v o new => v = .agg [.d (.cx .f32 r.Feeder.Source.A.re r.Feeder.Source.A.im), .d (.cx .f32 r.Feeder.Source.B.re r.Feeder.Source.B.im), .d (.cx .f32 r.Feeder.Source.C.re r.Feeder.Source.C.im), .row 0 r.Feeder.Buses.length 0 r.Feeder.Buses.length, .row 1 r.Taps.length 0 r.Taps.length, .row 2 r.List.length 0 r.List.length] ∧ o = [] ∧ new = [.row 8 (r.Feeder.Buses.map eSBus), .row 5 (r.Taps.map eSTap), .row 3 (r.List.map eSOutage)]) := spec_B10Desk_ok_fr0 false n code_ h
theorem spec_B10Desk_ok_fr (n : Nat) (code_ : List Int) {r : SDesk} (h : m_spec_B10Desk n code_ = some r) : ACall prog true 40 [.d (.sl false (code_.map eIntu8))] [] (fun v o new => v = .agg [.d (.cx .f32 r.Feeder.Source.A.re r.Feeder.Source.A.im), .d (.cx .f32 r.Feeder.Source.B.re r.Feeder.Source.B.im), .d (.cx .f32 r.Feeder.Source.C.re r.Feeder.Source.C.im), .row 0 r.Feeder.Buses.length 0 r.Feeder.Buses.length, .row 1 r.Taps.length 0 r.Taps.length, .row 2 r.List.length 0 r.List.length] ∧ o = [] ∧ new = [.row 8 (r.Feeder.Buses.map eSBus), .row 5 (r.Taps.map eSTap), .row 3 (r.List.map eSOutage)]) := spec_B10Desk_ok_fr0 true n code_ h

def m_spec_l01Dec_j2 (n : Nat) (v30 : List Int) : Option Str :=
  some (chars v30)
def m_spec_l01Dec_j1 (n : Nat) (n_ : Int) (v27 : List Int) : Option Str :=
  if n_ < (0 : Int) then
    grd (room ([(45 : Int)].length + v27.length) 1) <|
    m_spec_l01Dec_j2 n ([(45 : Int)] ++ v27)
  else
    m_spec_l01Dec_j2 n v27
def m_spec_l01Dec_j5 (n : Nat) (k48 : List Int → Int → Option Str) (v39 : List Int) (v40 : Int) (v52 : Int) : Option Str :=
  grd (room ([(IntKind.wrap .u8 ((w64 ((48 : Int) + v52))))].length + v39.length) 1) <|
  k48 ([(IntKind.wrap .u8 ((w64 ((48 : Int) + v52))))] ++ v39) (w64 (v40.tdiv (10 : Int)))
def m_spec_l01Dec_j4 (n : Nat) (k48 : List Int → Int → Option Str) (v39 : List Int) (v40 : Int) : Option Str :=
  if (v40.tmod (10 : Int)) < (0 : Int) then
    m_spec_l01Dec_j5 n k48 v39 v40 (w64 (0 - (v40.tmod (10 : Int))))
  else
    m_spec_l01Dec_j5 n k48 v39 v40 (v40.tmod (10 : Int))
def m_spec_l01Dec_j6 (n : Nat) (n_ : Int) (k48 : List Int → Int → Option Str) (v39 : List Int) (v40 : Int) (v59 : Bool) : Option Str :=
  if v59 = true then
    m_spec_l01Dec_j4 n k48 v39 v40
  else
    m_spec_l01Dec_j1 n n_ v39
def m_spec_l01Dec_l3 (n : Nat) (n_ : Int) : Nat → List Int → Int → Option Str
  | 0, _, _ => none
  | m47 + 1, v39, v40 =>
    if (v39.length : Int) = (0 : Int) then
      m_spec_l01Dec_j6 n n_ (m_spec_l01Dec_l3 n n_ m47) v39 v40 true
    else
      m_spec_l01Dec_j6 n n_ (m_spec_l01Dec_l3 n n_ m47) v39 v40 (!(decide (v40 = (0 : Int))))
def m_spec_l01Dec (n : Nat) (n_ : Int) : Option Str :=
  m_spec_l01Dec_l3 n n_ n ([] : List Int) n_
theorem spec_l01Dec_ok_fr0 (fr : Bool) (n : Nat) (n_ : Int) {r : Str} (h : m_spec_l01Dec n n_ = some r) : ACall prog fr 102 [.d (.int .i64 n_)] [] (fun v o new => v = .d (.str (bstr r)) ∧ o = [] ∧ new = []) := by
  refine acall_of_aw hτ func102 rfl (by simp) (by simp) ?_
  unfold m_spec_l01Dec at h
  refine aw_seq ?_
  refine aw_region ?_
  refine awl_val hτ rfl rfl rfl ?_
  refine awl_nil ?_
  refine aw_seq ?_
  refine aw_region ?_
  refine awl_valH hτ rfl rfl rfl ?_
  refine awl_val hτ rfl rfl rfl ?_
  refine awl_nil ?_
  refine aw_seq ?_
  refine aw_region ?_
  refine awl_val hτ rfl rfl rfl ?_
  refine awl_val hτ rfl rfl rfl ?_
  refine awl_nil ?_
  refine aw_hk1 (ι := List Int) (fun v27 => St.of [(0, .d (.int .i64 n_)), (3, .row 0 v27.length 0 v27.length)] [.row 1 (v27.map eIntu8)] f102.ntmps 0) (fun v27 => m_spec_l01Dec_j1 n n_ v27 = some r) ?_ (fun hk34 => ?_)
  · rintro v27 h
    replace h : m_spec_l01Dec_j1 n n_ v27 = some r := h
    unfold m_spec_l01Dec_j1 at h
    refine aw_hk1 (ι := List Int) (fun v30 => St.of [(3, .row 0 v30.length 0 v30.length)] [.row 1 (v30.map eIntu8)] f102.ntmps 0) (fun v30 => m_spec_l01Dec_j2 n v30 = some r) ?_ (fun hk31 => ?_)
    · rintro v30 h
      replace h : m_spec_l01Dec_j2 n v30 = some r := h
      unfold m_spec_l01Dec_j2 at h
      refine aw_seq ?_
      refine aw_region ?_
      refine awl_val hτ rfl rfl rfl ?_
      refine awl_x rfl rfl (x_b2s hτ (f := eIntu8) (l := v30) rfl rfl rfl rfl rfl rfl rfl (fun _ => rfl) (slice_row v30 rfl rfl) ⟨len_map _, by omega⟩) ?_
      refine awl_val hτ rfl rfl rfl ?_
      refine awl_nil ?_
      refine aw_weak (weak_ofP [] (l := [(2, .d (.str (bstr (chars v30))))]) (objs := []) rfl (by simp) rfl (by repeat' first | exact trivial | refine ⟨?_, ?_⟩) ⟨rfl, trivial, trivial⟩) ?_
      refine aw_ret ?_
      have hr := Option.some.inj h
      subst hr
      exact ret_objs (.inr rfl) [] (objs' := []) (new := []) rfl (by simp) (by simp) rfl (by repeat' first | exact trivial | refine ⟨?_, ?_⟩) rfl rfl (by repeat' first | exact trivial | refine ⟨?_, ?_⟩) (fun _ => ⟨by simp [V.flat, V.flatA, V.flatC, D.flat], flat_nil⟩) ⟨rfl, rfl, rfl⟩
    · refine aw_seq ?_
      refine aw_seq ?_
      refine aw_region ?_
      refine awl_val hτ rfl rfl rfl ?_
      refine awl_val hτ rfl rfl rfl ?_
      refine awl_nil ?_
      refine aw_cond rfl (fun hc32 => ?_) (fun hc32 => ?_)
      · have h := if_t h hc32
        refine aw_region ?_
        refine awl_valH hτ rfl rfl rfl ?_
        refine awl_val hτ rfl rfl rfl ?_
        refine grd_elim h fun hg33 h => ?_
        refine awl_needH hτ rfl rfl (Eq.trans rfl (or_append (f := eIntu8) [(45 : Int)] v27 (row_all _ rfl))) ⟨⟨len_map _, by omega⟩, len_map _, rfl, rfl, (by rw [row_all _ rfl]; exact room_map (f := eIntu8) hg33), by decide, (by rw [row_all _ rfl]; exact map_lens (f := eIntu8) (fun _ => rfl) _)⟩ ?_
        refine awl_val hτ rfl rfl rfl ?_
        refine awl_nil ?_
        refine aw_weak (weak_ofP [1] (l := [(3, .row 0 (([(45 : Int)] ++ v27).length) 0 (([(45 : Int)] ++ v27).length))]) (objs := [.row 1 (([(45 : Int)] ++ v27).map eIntu8)]) rfl (by simp) rfl (by repeat' first | exact trivial | refine ⟨?_, ?_⟩) ⟨rfl, trivial, trivial⟩) ?_
        exact hk31 ([(45 : Int)] ++ v27) h
      · have h := if_f h hc32
        refine aw_skip ?_
        refine aw_weak (weak_ofP [0] (l := [(3, .row 0 v27.length 0 v27.length)]) (objs := [.row 1 (v27.map eIntu8)]) rfl (by simp) rfl (by repeat' first | exact trivial | refine ⟨?_, ?_⟩) ⟨rfl, trivial, trivial⟩) ?_
        exact hk31 v27 h
  · refine aw_seq ?_
    refine aw_block ?_
    refine aw_loop (ι := Nat × List Int × Int) (fun (m47, v39, v40) => St.of [(0, .d (.int .i64 n_)), (3, .row 0 v39.length 0 v39.length), (4, .d (.int .i64 v40))] [.row 1 (v39.map eIntu8)] f102.ntmps 0) (fun (m47, v39, v40) => m_spec_l01Dec_l3 n n_ m47 v39 v40 = some r) (fun x => x.1) (n, ([] : List Int), n_) h (weak_ofP [0] (l := [(0, .d (.int .i64 n_)), (3, .row 0 (([] : List Int).length) 0 (([] : List Int).length)), (4, .d (.int .i64 n_))]) (objs := [.row 1 (([] : List Int).map eIntu8)]) rfl (by simp) rfl (by repeat' first | exact trivial | refine ⟨?_, ?_⟩) ⟨rfl, trivial, rfl, trivial, rfl, trivial, trivial⟩) ?_
    rintro ⟨m47, v39, v40⟩ h
    replace h : m_spec_l01Dec_l3 n n_ m47 v39 v40 = some r := h
    rcases m47 with _ | m47
    · rw [m_spec_l01Dec_l3] at h; cases h
    rw [m_spec_l01Dec_l3] at h
    refine aw_hk1 (ι := Unit) (fun _ => St.of [(0, .d (.int .i64 n_)), (3, .row 0 v39.length 0 v39.length), (4, .d (.int .i64 v40))] [.row 1 (v39.map eIntu8)] f102.ntmps 0) (fun _ => m_spec_l01Dec_j4 n (m_spec_l01Dec_l3 n n_ m47) v39 v40 = some r) ?_ (fun hk56 => ?_)
    · rintro ⟨⟩ h
      replace h : m_spec_l01Dec_j4 n (m_spec_l01Dec_l3 n n_ m47) v39 v40 = some r := h
      unfold m_spec_l01Dec_j4 at h
      refine aw_block ?_
      refine aw_seq ?_
      refine aw_region ?_
      refine awl_val hτ rfl rfl rfl ?_
      refine awl_need hτ rfl rfl rfl (by decide) ?_
      refine awl_val hτ rfl rfl rfl ?_
      refine awl_nil ?_
      refine aw_hk1 (ι := Int) (fun v52 => St.of [(0, .d (.int .i64 n_)), (3, .row 0 v39.length 0 v39.length), (4, .d (.int .i64 v40)), (5, .d (.int .i64 v52))] [.row 1 (v39.map eIntu8)] f102.ntmps 0) (fun v52 => m_spec_l01Dec_j5 n (m_spec_l01Dec_l3 n n_ m47) v39 v40 v52 = some r) ?_ (fun hk54 => ?_)
      · rintro v52 h
        replace h : m_spec_l01Dec_j5 n (m_spec_l01Dec_l3 n n_ m47) v39 v40 v52 = some r := h
        unfold m_spec_l01Dec_j5 at h
        refine aw_seq ?_
        refine aw_region ?_
        refine awl_val hτ rfl rfl rfl ?_
        refine awl_val hτ rfl rfl rfl ?_
        refine awl_val hτ rfl rfl rfl ?_
        refine awl_valH hτ rfl rfl rfl ?_
        refine awl_val hτ rfl rfl rfl ?_
        refine grd_elim h fun hg53 h => ?_
        refine awl_needH hτ rfl rfl (Eq.trans rfl (or_append (f := eIntu8) [(IntKind.wrap .u8 ((w64 ((48 : Int) + v52))))] v39 (row_all _ rfl))) ⟨⟨len_map _, by omega⟩, len_map _, rfl, rfl, (by rw [row_all _ rfl]; exact room_map (f := eIntu8) hg53), by decide, (by rw [row_all _ rfl]; exact map_lens (f := eIntu8) (fun _ => rfl) _)⟩ ?_
        refine awl_val hτ rfl rfl rfl ?_
        refine awl_nil ?_
        refine aw_weak (weak_ofP [1] (l := [(0, .d (.int .i64 n_)), (3, .row 0 (([(IntKind.wrap .u8 ((w64 ((48 : Int) + v52))))] ++ v39).length) 0 (([(IntKind.wrap .u8 ((w64 ((48 : Int) + v52))))] ++ v39).length)), (4, .d (.int .i64 v40))]) (objs := [.row 1 (([(IntKind.wrap .u8 ((w64 ((48 : Int) + v52))))] ++ v39).map eIntu8)]) rfl (by simp) rfl (by repeat' first | exact trivial | refine ⟨?_, ?_⟩) ⟨rfl, trivial, rfl, trivial, rfl, trivial, trivial⟩) ?_
        refine aw_region ?_
        refine awl_val hτ rfl rfl rfl ?_
        refine awl_need hτ rfl rfl rfl (by decide) ?_
        refine awl_val hτ rfl rfl rfl ?_
        refine awl_nil ?_
        exact ⟨(m47, ([(IntKind.wrap .u8 ((w64 ((48 : Int) + v52))))] ++ v39), (w64 (v40.tdiv (10 : Int)))), h, Nat.lt_succ_self m47, (weak_ofP [0] (l := [(0, .d (.int .i64 n_)), (3, .row 0 (([(IntKind.wrap .u8 ((w64 ((48 : Int) + v52))))] ++ v39).length) 0 (([(IntKind.wrap .u8 ((w64 ((48 : Int) + v52))))] ++ v39).length)), (4, .d (.int .i64 (w64 (v40.tdiv (10 : Int)))))]) (objs := [.row 1 (([(IntKind.wrap .u8 ((w64 ((48 : Int) + v52))))] ++ v39).map eIntu8)]) rfl (by simp) rfl (by repeat' first | exact trivial | refine ⟨?_, ?_⟩) ⟨rfl, trivial, rfl, trivial, rfl, trivial, trivial⟩)⟩
      · refine aw_seq ?_
        refine aw_seq ?_
        refine aw_region ?_
        refine awl_val hτ rfl rfl rfl ?_
        refine awl_val hτ rfl rfl rfl ?_
        refine awl_nil ?_
        refine aw_cond rfl (fun hc55 => ?_) (fun hc55 => ?_)
        · have h := if_t h hc55
          refine aw_region ?_
          refine awl_val hτ rfl rfl rfl ?_
          refine awl_val hτ rfl rfl rfl ?_
          refine awl_val hτ rfl rfl rfl ?_
          refine awl_nil ?_
          refine aw_weak (weak_ofP [0] (l := [(0, .d (.int .i64 n_)), (3, .row 0 v39.length 0 v39.length), (4, .d (.int .i64 v40)), (5, .d (.int .i64 (w64 (0 - (v40.tmod (10 : Int))))))]) (objs := [.row 1 (v39.map eIntu8)]) rfl (by simp) rfl (by repeat' first | exact trivial | refine ⟨?_, ?_⟩) ⟨rfl, trivial, rfl, trivial, rfl, trivial, rfl, trivial, trivial⟩) ?_
          exact hk54 (w64 (0 - (v40.tmod (10 : Int)))) h
        · have h := if_f h hc55
          refine aw_skip ?_
          refine aw_weak (weak_ofP [0] (l := [(0, .d (.int .i64 n_)), (3, .row 0 v39.length 0 v39.length), (4, .d (.int .i64 v40)), (5, .d (.int .i64 (v40.tmod (10 : Int))))]) (objs := [.row 1 (v39.map eIntu8)]) rfl (by simp) rfl (by repeat' first | exact trivial | refine ⟨?_, ?_⟩) ⟨rfl, trivial, rfl, trivial, rfl, trivial, rfl, trivial, trivial⟩) ?_
          exact hk54 (v40.tmod (10 : Int)) h
    · refine aw_seq ?_
      refine aw_hk1 (ι := Bool) (fun v59 => St.of [(0, .d (.int .i64 n_)), (3, .row 0 v39.length 0 v39.length), (4, .d (.int .i64 v40)), (14, .d (.bool v59))] [.row 1 (v39.map eIntu8)] f102.ntmps 0) (fun v59 => m_spec_l01Dec_j6 n n_ (m_spec_l01Dec_l3 n n_ m47) v39 v40 v59 = some r) ?_ (fun hk61 => ?_)
      · rintro v59 h
        replace h : m_spec_l01Dec_j6 n n_ (m_spec_l01Dec_l3 n n_ m47) v39 v40 v59 = some r := h
        unfold m_spec_l01Dec_j6 at h
        refine aw_cond rfl (fun hc60 => ?_) (fun hc60 => ?_)
        · have h := if_bt h hc60
          refine aw_skip ?_
          refine aw_weak (weak_ofP [0] (l := [(0, .d (.int .i64 n_)), (3, .row 0 v39.length 0 v39.length), (4, .d (.int .i64 v40))]) (objs := [.row 1 (v39.map eIntu8)]) rfl (by simp) rfl (by repeat' first | exact trivial | refine ⟨?_, ?_⟩) ⟨rfl, trivial, rfl, trivial, rfl, trivial, trivial⟩) ?_
          exact hk56 () h
        · have h := if_bf h hc60
          refine aw_exit ?_
          refine aw_weak (weak_ofP [0] (l := [(0, .d (.int .i64 n_)), (3, .row 0 v39.length 0 v39.length)]) (objs := [.row 1 (v39.map eIntu8)]) rfl (by simp) rfl (by repeat' first | exact trivial | refine ⟨?_, ?_⟩) ⟨rfl, trivial, rfl, trivial, trivial⟩) ?_
          exact hk34 v39 h
      · refine aw_seq ?_
        refine aw_region ?_
        refine awl_val hτ rfl rfl rfl ?_
        refine awl_need hτ rfl rfl rfl (len_map _) ?_
        refine awl_val hτ (v := .d (.bool (decide ((v39.length : Int) = (0 : Int))))) rfl rfl (or_ieq _ _) ?_
        refine awl_val hτ rfl rfl rfl ?_
        refine awl_split 11 rfl (fun hb62 => ?_) (fun hb62 => ?_)
        · have h := if_t h hb62
          refine awl_skip rfl rfl ?_
          refine awl_skip rfl rfl ?_
          refine awl_val hτ rfl rfl rfl ?_
          refine awl_nil ?_
          refine aw_weak (weak_ofP [0] (l := [(0, .d (.int .i64 n_)), (3, .row 0 v39.length 0 v39.length), (4, .d (.int .i64 v40)), (14, .d (.bool true))]) (objs := [.row 1 (v39.map eIntu8)]) rfl (by simp) rfl (by repeat' first | exact trivial | refine ⟨?_, ?_⟩) ⟨rfl, trivial, rfl, trivial, rfl, trivial, rfl, trivial, trivial⟩) ?_
          exact hk61 true h
        · have h := if_f h hb62
          refine awl_val hτ rfl rfl rfl ?_
          refine awl_val hτ (v := .d (.bool (!(decide (v40 = (0 : Int)))))) rfl rfl (or_ine _ _) ?_
          refine awl_val hτ rfl rfl rfl ?_
          refine awl_nil ?_
          refine aw_weak (weak_ofP [0] (l := [(0, .d (.int .i64 n_)), (3, .row 0 v39.length 0 v39.length), (4, .d (.int .i64 v40)), (14, .d (.bool (!(decide (v40 = (0 : Int))))))]) (objs := [.row 1 (v39.map eIntu8)]) rfl (by simp) rfl (by repeat' first | exact trivial | refine ⟨?_, ?_⟩) ⟨rfl, trivial, rfl, trivial, rfl, trivial, rfl, trivial, trivial⟩) ?_
          exact hk61 (!(decide (v40 = (0 : Int)))) h
theorem spec_l01Dec_ok (n : Nat) (n_ : Int) {r : Str} (h : m_spec_l01Dec n n_ = some r) : ACall prog false 102 [.d (.int .i64 n_)] [] (fun v o new => v = .d (.str (bstr r)) ∧ o = [] ∧ new = []) := spec_l01Dec_ok_fr0 false n n_ h
theorem spec_l01Dec_ok_fr (n : Nat) (n_ : Int) {r : Str} (h : m_spec_l01Dec n n_ = some r) : ACall prog true 102 [.d (.int .i64 n_)] [] (fun v o new => v = .d (.str (bstr r)) ∧ o = [] ∧ new = []) := spec_l01Dec_ok_fr0 true n n_ h

def m_spec_l01Bits (n : Nat) (x_ : Nat) : Option Int :=
  if (fcmp .neq .f32 x_ x_) = true then
    some (2143289344 : Int)
  else
    grd (isnan .f32 x_ = false) <|
    some (w64 ((x_ : Int)))
theorem spec_l01Bits_ok_fr0 (fr : Bool) (n : Nat) (x_ : Nat) {r : Int} (h : m_spec_l01Bits n x_ = some r) : ACall prog fr 89 [.d (.fl .f32 x_)] [] (fun v o new => v = .d (.int .i64 r) ∧ o = [] ∧ new = []) := by
  refine acall_of_aw hτ func89 rfl (by simp) (by simp) ?_
  unfold m_spec_l01Bits at h
  refine aw_seq ?_
  refine aw_region ?_
  refine awl_val hτ rfl rfl rfl ?_
  refine awl_nil ?_
  refine aw_seq ?_
  refine aw_seq ?_
  refine aw_region ?_
  refine awl_val hτ rfl rfl rfl ?_
  refine awl_val hτ rfl rfl rfl ?_
  refine awl_val hτ rfl rfl rfl ?_
  refine awl_nil ?_
  refine aw_cond rfl (fun hc2 => ?_) (fun hc2 => ?_)
  · have h := if_bt h hc2
    refine aw_seq ?_
    refine aw_region ?_
    refine awl_val hτ rfl rfl rfl ?_
    refine awl_nil ?_
    refine aw_weak (weak_ofP [] (l := [(2, .d (.int .i64 (2143289344 : Int)))]) (objs := []) rfl (by simp) rfl (by repeat' first | exact trivial | refine ⟨?_, ?_⟩) ⟨rfl, trivial, trivial⟩) ?_
    refine aw_ret ?_
    have hr := Option.some.inj h
    subst hr
    exact ret_objs (.inr rfl) [] (objs' := []) (new := []) rfl (by simp) (by simp) rfl (by repeat' first | exact trivial | refine ⟨?_, ?_⟩) rfl rfl (by repeat' first | exact trivial | refine ⟨?_, ?_⟩) (fun _ => ⟨by simp [V.flat, V.flatA, V.flatC, D.flat], flat_nil⟩) ⟨rfl, rfl, rfl⟩
  · have h := if_bf h hc2
    refine aw_skip ?_
    refine aw_seq ?_
    refine aw_region ?_
    refine awl_val hτ rfl rfl rfl ?_
    refine grd_elim h fun hg3 h => ?_
    refine awl_ext hτ rfl rfl rfl (ext62 hg3) ?_
    refine awl_val hτ rfl rfl rfl ?_
    refine awl_val hτ rfl rfl rfl ?_
    refine awl_nil ?_
    refine aw_weak (weak_ofP [] (l := [(2, .d (.int .i64 (w64 ((x_ : Int)))))]) (objs := []) rfl (by simp) rfl (by repeat' first | exact trivial | refine ⟨?_, ?_⟩) ⟨rfl, trivial, trivial⟩) ?_
    refine aw_ret ?_
    have hr := Option.some.inj h
    subst hr
    exact ret_objs (.inr rfl) [] (objs' := []) (new := []) rfl (by simp) (by simp) rfl (by repeat' first | exact trivial | refine ⟨?_, ?_⟩) rfl rfl (by repeat' first | exact trivial | refine ⟨?_, ?_⟩) (fun _ => ⟨by simp [V.flat, V.flatA, V.flatC, D.flat], flat_nil⟩) ⟨rfl, rfl, rfl⟩
theorem spec_l01Bits_ok (n : Nat) (x_ : Nat) {r : Int} (h : m_spec_l01Bits n x_ = some r) : ACall prog false 89 [.d (.fl .f32 x_)] [] (fun v o new => v = .d (.int .i64 r) ∧ o = [] ∧ new = []) := spec_l01Bits_ok_fr0 false n x_ h
theorem spec_l01Bits_ok_fr (n : Nat) (x_ : Nat) {r : Int} (h : m_spec_l01Bits n x_ = some r) : ACall prog true 89 [.d (.fl .f32 x_)] [] (fun v o new => v = .d (.int .i64 r) ∧ o = [] ∧ new = []) := spec_l01Bits_ok_fr0 true n x_ h

def m_spec_l01Hex_j1 (n : Nat) (v23 : List Int) : Option Str :=
  some (chars v23)
def m_spec_l01Hex_l2 (n : Nat) (x12 : Int) : Nat → List Int → Int → Option Str
  | 0, _, _ => none
  | m35 + 1, v28, v29 =>
    if v29 ≥ (0 : Int) then
      grd (0 ≤ (IntKind.wrap .u64 (v29))) <|
      (getI ([48, 49, 50, 51, 52, 53, 54, 55, 56, 57, 97, 98, 99, 100, 101, 102] : Str) (ibits .and .i64 (x12.fdiv (2 ^ min (IntKind.wrap .u64 (v29)).toNat (IntKind.bits .i64))) (15 : Int))).bind fun x39 =>
      grd (room (v28.length + 1) 1) <|
      (m_spec_l01Hex_l2 n x12 m35) (v28 ++ [(x39.toNat : Int)]) (w64 (v29 - (4 : Int)))
    else
      m_spec_l01Hex_j1 n v28
def m_spec_l01Hex (n : Nat) (x_ : Nat) : Option Str :=
  (m_spec_l01Bits n x_).bind fun x12 =>
  m_spec_l01Hex_l2 n x12 n ([] : List Int) (28 : Int)
theorem spec_l01Hex_ok_fr0 (fr : Bool) (n : Nat) (x_ : Nat) {r : Str} (h : m_spec_l01Hex n x_ = some r) : ACall prog fr 107 [.d (.fl .f32 x_)] [] (fun v o new => v = .d (.str (bstr r)) ∧ o = [] ∧ new = []) := by
  refine acall_of_aw hτ func107 rfl (by simp) (by simp) ?_
  unfold m_spec_l01Hex at h
  refine aw_seq ?_
  refine aw_region ?_
  refine awl_val hτ rfl rfl rfl ?_
  refine awl_nil ?_
  refine aw_seq ?_
  refine aw_region ?_
  refine awl_val hτ rfl rfl rfl ?_
  refine bnd_elim h fun x12 hx12 h => ?_
  refine awl_callP hτ false [] rfl rfl rfl (enterOk func89 rfl rfl) rfl rfl (by simp) ⟨trivial, trivial⟩ (by repeat' first | exact trivial | refine ⟨?_, ?_⟩) (spec_l01Bits_ok n x_ hx12) ?_
  rintro r0 o0 n0 ⟨rfl, rfl, rfl⟩ -
  refine awl_val hτ rfl rfl rfl ?_
  refine awl_nil ?_
  refine aw_seq ?_
  refine aw_region ?_
  refine awl_valH hτ rfl rfl rfl ?_
  refine awl_val hτ rfl rfl rfl ?_
  refine awl_nil ?_
  refine aw_hk1 (ι := List Int) (fun v23 => St.of [(4, .row 0 v23.length 0 v23.length)] [.row 1 (v23.map eIntu8)] f107.ntmps 0) (fun v23 => m_spec_l01Hex_j1 n v23 = some r) ?_ (fun hk24 => ?_)
  · rintro v23 h
    replace h : m_spec_l01Hex_j1 n v23 = some r := h
    unfold m_spec_l01Hex_j1 at h
    refine aw_seq ?_
    refine aw_region ?_
    refine awl_val hτ rfl rfl rfl ?_
    refine awl_x rfl rfl (x_b2s hτ (f := eIntu8) (l := v23) rfl rfl rfl rfl rfl rfl rfl (fun _ => rfl) (slice_row v23 rfl rfl) ⟨len_map _, by omega⟩) ?_
    refine awl_val hτ rfl rfl rfl ?_
    refine awl_nil ?_
    refine aw_weak (weak_ofP [] (l := [(2, .d (.str (bstr (chars v23))))]) (objs := []) rfl (by simp) rfl (by repeat' first | exact trivial | refine ⟨?_, ?_⟩) ⟨rfl, trivial, trivial⟩) ?_
    refine aw_ret ?_
    have hr := Option.some.inj h
    subst hr
    exact ret_objs (.inr rfl) [] (objs' := []) (new := []) rfl (by simp) (by simp) rfl (by repeat' first | exact trivial | refine ⟨?_, ?_⟩) rfl rfl (by repeat' first | exact trivial | refine ⟨?_, ?_⟩) (fun _ => ⟨by simp [V.flat, V.flatA, V.flatC, D.flat], flat_nil⟩) ⟨rfl, rfl, rfl⟩
  · refine aw_seq ?_
    refine aw_seq ?_
    refine aw_weak (weak_ofP [0] (l := [(3, .d (.int .i64 x12)), (4, .row 0 (([] : List Int).length) 0 (([] : List Int).length))]) (objs := [.row 1 (([] : List Int).map eIntu8)]) rfl (by simp) rfl (by repeat' first | exact trivial | refine ⟨?_, ?_⟩) ⟨rfl, trivial, rfl, trivial, trivial⟩) ?_
    refine aw_region ?_
    refine awl_val hτ rfl rfl rfl ?_
    refine awl_nil ?_
    refine aw_block ?_
    refine aw_loop (ι := Nat × List Int × Int) (fun (m35, v28, v29) => St.of [(3, .d (.int .i64 x12)), (4, .row 0 v28.length 0 v28.length), (5, .d (.int .i64 v29))] [.row 1 (v28.map eIntu8)] f107.ntmps 0) (fun (m35, v28, v29) => m_spec_l01Hex_l2 n x12 m35 v28 v29 = some r) (fun x => x.1) (n, ([] : List Int), (28 : Int)) h (weak_ofP [0] (l := [(3, .d (.int .i64 x12)), (4, .row 0 (([] : List Int).length) 0 (([] : List Int).length)), (5, .d (.int .i64 (28 : Int)))]) (objs := [.row 1 (([] : List Int).map eIntu8)]) rfl (by simp) rfl (by repeat' first | exact trivial | refine ⟨?_, ?_⟩) ⟨rfl, trivial, rfl, trivial, rfl, trivial, trivial⟩) ?_
    rintro ⟨m35, v28, v29⟩ h
    replace h : m_spec_l01Hex_l2 n x12 m35 v28 v29 = some r := h
    rcases m35 with _ | m35
    · rw [m_spec_l01Hex_l2] at h; cases h
    rw [m_spec_l01Hex_l2] at h
    refine aw_seq ?_
    refine aw_seq ?_
    refine aw_region ?_
    refine awl_val hτ rfl rfl rfl ?_
    refine awl_val hτ rfl rfl rfl ?_
    refine awl_nil ?_
    refine aw_cond rfl (fun hc37 => ?_) (fun hc37 => ?_)
    · have h := if_t h hc37
      refine aw_skip ?_
      refine aw_seq ?_
      refine aw_block ?_
      refine aw_region ?_
      refine awl_val hτ rfl rfl rfl ?_
      refine awl_val hτ rfl rfl rfl ?_
      refine awl_val hτ rfl rfl rfl ?_
      refine awl_val hτ rfl rfl rfl ?_
      refine grd_elim h fun hg38 h => ?_
      refine awl_need hτ rfl rfl rfl hg38 ?_
      refine awl_val hτ rfl rfl rfl ?_
      refine bnd_elim h fun x39 hx39 h => ?_
      refine awl_need hτ (v := .d (.int .u8 (x39.toNat : Int))) rfl rfl (Eq.trans rfl (or_sidx hx39)) (sidx_need hx39) ?_
      refine awl_valH hτ rfl rfl rfl ?_
      refine grd_elim h fun hg40 h => ?_
      refine awl_needH hτ rfl rfl (Eq.trans rfl (or_append (f := eIntu8) v28 [(x39.toNat : Int)] rfl)) ⟨⟨rfl, Nat.le_of_ble_eq_true rfl⟩, len_map _, rfl, rfl, hg40, by decide, (all1 rfl)⟩ ?_
      refine awl_val hτ rfl rfl rfl ?_
      refine awl_nil ?_
      refine aw_weak (weak_ofP [0] (l := [(3, .d (.int .i64 x12)), (4, .row 0 ((v28 ++ [(x39.toNat : Int)]).length) 0 ((v28 ++ [(x39.toNat : Int)]).length)), (5, .d (.int .i64 v29))]) (objs := [.row 1 ((v28 ++ [(x39.toNat : Int)]).map eIntu8)]) rfl (by simp) rfl (by repeat' first | exact trivial | refine ⟨?_, ?_⟩) ⟨rfl, trivial, rfl, trivial, rfl, trivial, trivial⟩) ?_
      refine aw_region ?_
      refine awl_val hτ rfl rfl rfl ?_
      refine awl_val hτ rfl rfl rfl ?_
      refine awl_val hτ rfl rfl rfl ?_
      refine awl_nil ?_
      exact ⟨(m35, (v28 ++ [(x39.toNat : Int)]), (w64 (v29 - (4 : Int)))), h, Nat.lt_succ_self m35, (weak_ofP [0] (l := [(3, .d (.int .i64 x12)), (4, .row 0 ((v28 ++ [(x39.toNat : Int)]).length) 0 ((v28 ++ [(x39.toNat : Int)]).length)), (5, .d (.int .i64 (w64 (v29 - (4 : Int)))))]) (objs := [.row 1 ((v28 ++ [(x39.toNat : Int)]).map eIntu8)]) rfl (by simp) rfl (by repeat' first | exact trivial | refine ⟨?_, ?_⟩) ⟨rfl, trivial, rfl, trivial, rfl, trivial, trivial⟩)⟩
    · have h := if_f h hc37
      refine aw_exit ?_
      refine aw_weak (weak_ofP [0] (l := [(4, .row 0 v28.length 0 v28.length)]) (objs := [.row 1 (v28.map eIntu8)]) rfl (by simp) rfl (by repeat' first | exact trivial | refine ⟨?_, ?_⟩) ⟨rfl, trivial, trivial⟩) ?_
      exact hk24 v28 h
theorem spec_l01Hex_ok (n : Nat) (x_ : Nat) {r : Str} (h : m_spec_l01Hex n x_ = some r) : ACall prog false 107 [.d (.fl .f32 x_)] [] (fun v o new => v = .d (.str (bstr r)) ∧ o = [] ∧ new = []) := spec_l01Hex_ok_fr0 false n x_ h
theorem spec_l01Hex_ok_fr (n : Nat) (x_ : Nat) {r : Str} (h : m_spec_l01Hex n x_ = some r) : ACall prog true 107 [.d (.fl .f32 x_)] [] (fun v o new => v = .d (.str (bstr r)) ∧ o = [] ∧ new = []) := spec_l01Hex_ok_fr0 true n x_ h

def m_spec_l01CHex (n : Nat) (x_ : Cx) : Option Str :=
  (m_spec_l01Hex n x_.re).bind fun x4 =>
  (m_spec_l01Hex n x_.im).bind fun x5 =>
  grd (x4.length + x5.length ≤ 9223372036854775807) <|
  some (x4 ++ x5)
theorem spec_l01CHex_ok_fr0 (fr : Bool) (n : Nat) (x_ : Cx) {r : Str} (h : m_spec_l01CHex n x_ = some r) : ACall prog fr 123 [.d (.cx .f32 x_.re x_.im)] [] (fun v o new => v = .d (.str (bstr r)) ∧ o = [] ∧ new = []) := by
  refine acall_of_aw hτ func123 rfl (by simp) (by simp) ?_
  unfold m_spec_l01CHex at h
  refine aw_seq ?_
  refine aw_region ?_
  refine awl_val hτ rfl rfl rfl ?_
  refine awl_nil ?_
  refine aw_seq ?_
  refine aw_region ?_
  refine awl_val hτ rfl rfl rfl ?_
  refine awl_val hτ rfl rfl rfl ?_
  refine bnd_elim h fun x4 hx4 h => ?_
  refine awl_callP hτ false [] rfl rfl rfl (enterOk func107 rfl rfl) rfl rfl (by simp) ⟨trivial, trivial⟩ (by repeat' first | exact trivial | refine ⟨?_, ?_⟩) (spec_l01Hex_ok n x_.re hx4) ?_
  rintro r0 o0 n0 ⟨rfl, rfl, rfl⟩ -
  refine awl_val hτ rfl rfl rfl ?_
  refine awl_val hτ rfl rfl rfl ?_
  refine bnd_elim h fun x5 hx5 h => ?_
  refine awl_callP hτ false [] rfl rfl rfl (enterOk func107 rfl rfl) rfl rfl (by simp) ⟨trivial, trivial⟩ (by repeat' first | exact trivial | refine ⟨?_, ?_⟩) (spec_l01Hex_ok n x_.im hx5) ?_
  rintro r0 o0 n0 ⟨rfl, rfl, rfl⟩ -
  refine grd_elim h fun hg6 h => ?_
  refine awl_need hτ (v := .d (.str (bstr (x4 ++ x5)))) rfl rfl (Eq.trans rfl (or_cat _ _)) hg6 ?_
  refine awl_val hτ rfl rfl rfl ?_
  refine awl_nil ?_
  refine aw_weak (weak_ofP [] (l := [(2, .d (.str (bstr (x4 ++ x5))))]) (objs := []) rfl (by simp) rfl (by repeat' first | exact trivial | refine ⟨?_, ?_⟩) ⟨rfl, trivial, trivial⟩) ?_
  refine aw_ret ?_
  have hr := Option.some.inj h
  subst hr
  exact ret_objs (.inr rfl) [] (objs' := []) (new := []) rfl (by simp) (by simp) rfl (by repeat' first | exact trivial | refine ⟨?_, ?_⟩) rfl rfl (by repeat' first | exact trivial | refine ⟨?_, ?_⟩) (fun _ => ⟨by simp [V.flat, V.flatA, V.flatC, D.flat], flat_nil⟩) ⟨rfl, rfl, rfl⟩
theorem spec_l01CHex_ok (n : Nat) (x_ : Cx) {r : Str} (h : m_spec_l01CHex n x_ = some r) : ACall prog false 123 [.d (.cx .f32 x_.re x_.im)] [] (fun v o new => v = .d (.str (bstr r)) ∧ o = [] ∧ new = []) := spec_l01CHex_ok_fr0 false n x_ h
theorem spec_l01CHex_ok_fr (n : Nat) (x_ : Cx) {r : Str} (h : m_spec_l01CHex n x_ = some r) : ACall prog true 123 [.d (.cx .f32 x_.re x_.im)] [] (fun v o new => v = .d (.str (bstr r)) ∧ o = [] ∧ new = []) := spec_l01CHex_ok_fr0 true n x_ h

def m_spec_l01CText_l1 (n : Nat) (list_ : List Cx) : Nat → Str → Int → Option Str
  | 0, _, _ => none
  | m30 + 1, v22, v23 =>
    if v23 < (list_.length : Int) then
      (getI list_ v23).bind fun x33 =>
      (m_spec_l01CHex n x33).bind fun x34 =>
      grd (([44] : Str).length + x34.length ≤ 9223372036854775807) <|
      grd (v22.length + (([44] : Str) ++ x34).length ≤ 9223372036854775807) <|
      (m_spec_l01CText_l1 n list_ m30) (v22 ++ (([44] : Str) ++ x34)) (w64 (v23 + (1 : Int)))
    else
      some v22
def m_spec_l01CText (n : Nat) (list_ : List Cx) : Option Str :=
  if (list_.length : Int) = (0 : Int) then
    some ([110, 111, 110, 101] : Str)
  else
    (getI list_ (0 : Int)).bind fun x16 =>
    (m_spec_l01CHex n x16).bind fun x17 =>
    m_spec_l01CText_l1 n list_ n x17 (1 : Int)
theorem spec_l01CText_ok_fr0 (fr : Bool) (n : Nat) (list_ : List Cx) {r : Str} (h : m_spec_l01CText n list_ = some r) : ACall prog fr 106 [.d (.sl false (list_.map eCxf32))] [] (fun v o new => v = .d (.str (bstr r)) ∧ o = [] ∧ new = []) := by
  refine acall_of_aw hτ func106 rfl (by simp) (by simp) ?_
  unfold m_spec_l01CText at h
  refine aw_seq ?_
  refine aw_region ?_
  refine awl_val hτ rfl rfl rfl ?_
  refine awl_nil ?_
  refine aw_seq ?_
  refine aw_seq ?_
  refine aw_region ?_
  refine awl_val hτ rfl rfl rfl ?_
  refine awl_val hτ (v := .d (.int .i64 (list_.length : Int))) rfl rfl (Eq.trans rfl (or_len (f := eCxf32) list_)) ?_
  refine awl_val hτ (v := .d (.bool (decide ((list_.length : Int) = (0 : Int))))) rfl rfl (or_ieq _ _) ?_
  refine awl_nil ?_
  refine aw_cond rfl (fun hc15 => ?_) (fun hc15 => ?_)
  · have h := if_t h hc15
    refine aw_seq ?_
    refine aw_region ?_
    refine awl_val hτ rfl rfl rfl ?_
    refine awl_nil ?_
    refine aw_weak (weak_ofP [] (l := [(2, .d (.str (bstr ([110, 111, 110, 101] : Str))))]) (objs := []) rfl (by simp) rfl (by repeat' first | exact trivial | refine ⟨?_, ?_⟩) ⟨rfl, trivial, trivial⟩) ?_
    refine aw_ret ?_
    have hr := Option.some.inj h
    subst hr
    exact ret_objs (.inr rfl) [] (objs' := []) (new := []) rfl (by simp) (by simp) rfl (by repeat' first | exact trivial | refine ⟨?_, ?_⟩) rfl rfl (by repeat' first | exact trivial | refine ⟨?_, ?_⟩) (fun _ => ⟨by simp [V.flat, V.flatA, V.flatC, D.flat], flat_nil⟩) ⟨rfl, rfl, rfl⟩
  · have h := if_f h hc15
    refine aw_skip ?_
    refine aw_seq ?_
    refine aw_region ?_
    refine awl_val hτ rfl rfl rfl ?_
    refine bnd_elim h fun x16 hx16 h => ?_
    refine awl_elem hτ rfl rfl rfl (getI_some hx16).1 (map_getI hx16) rfl ?_
    refine awl_val hτ rfl rfl rfl ?_
    refine bnd_elim h fun x17 hx17 h => ?_
    refine awl_callP hτ false [] rfl rfl rfl (enterOk func123 rfl rfl) rfl rfl (by simp) ⟨trivial, trivial⟩ (by repeat' first | exact trivial | refine ⟨?_, ?_⟩) (spec_l01CHex_ok n x16 hx17) ?_
    rintro r0 o0 n0 ⟨rfl, rfl, rfl⟩ -
    refine awl_val hτ rfl rfl rfl ?_
    refine awl_nil ?_
    refine aw_seq ?_
    refine aw_seq ?_
    refine aw_weak (weak_ofP [] (l := [(0, .d (.sl false (list_.map eCxf32))), (3, .d (.str (bstr x17)))]) (objs := []) rfl (by simp) rfl (by repeat' first | exact trivial | refine ⟨?_, ?_⟩) ⟨rfl, trivial, rfl, trivial, trivial⟩) ?_
    refine aw_region ?_
    refine awl_val hτ rfl rfl rfl ?_
    refine awl_nil ?_
    refine aw_block ?_
    refine aw_loop (ι := Nat × Str × Int) (fun (m30, v22, v23) => St.of [(0, .d (.sl false (list_.map eCxf32))), (3, .d (.str (bstr v22))), (4, .d (.int .i64 v23))] [] f106.ntmps 0) (fun (m30, v22, v23) => m_spec_l01CText_l1 n list_ m30 v22 v23 = some r) (fun x => x.1) (n, x17, (1 : Int)) h (weak_ofP [] (l := [(0, .d (.sl false (list_.map eCxf32))), (3, .d (.str (bstr x17))), (4, .d (.int .i64 (1 : Int)))]) (objs := []) rfl (by simp) rfl (by repeat' first | exact trivial | refine ⟨?_, ?_⟩) ⟨rfl, trivial, rfl, trivial, rfl, trivial, trivial⟩) ?_
    rintro ⟨m30, v22, v23⟩ h
    replace h : m_spec_l01CText_l1 n list_ m30 v22 v23 = some r := h
    rcases m30 with _ | m30
    · rw [m_spec_l01CText_l1] at h; cases h
    rw [m_spec_l01CText_l1] at h
    refine aw_seq ?_
    refine aw_seq ?_
    refine aw_region ?_
    refine awl_val hτ rfl rfl rfl ?_
    refine awl_val hτ rfl rfl rfl ?_
    refine awl_val hτ (v := .d (.int .i64 (list_.length : Int))) rfl rfl (Eq.trans rfl (or_len (f := eCxf32) list_)) ?_
    refine awl_val hτ rfl rfl rfl ?_
    refine awl_nil ?_
    refine aw_cond rfl (fun hc32 => ?_) (fun hc32 => ?_)
    · have h := if_t h hc32
      refine aw_skip ?_
      refine aw_seq ?_
      refine aw_block ?_
      refine aw_region ?_
      refine awl_val hτ rfl rfl rfl ?_
      refine awl_val hτ rfl rfl rfl ?_
      refine awl_val hτ rfl rfl rfl ?_
      refine bnd_elim h fun x33 hx33 h => ?_
      refine awl_elem hτ rfl rfl rfl (getI_some hx33).1 (map_getI hx33) rfl ?_
      refine awl_val hτ rfl rfl rfl ?_
      refine bnd_elim h fun x34 hx34 h => ?_
      refine awl_callP hτ false [] rfl rfl rfl (enterOk func123 rfl rfl) rfl rfl (by simp) ⟨trivial, trivial⟩ (by repeat' first | exact trivial | refine ⟨?_, ?_⟩) (spec_l01CHex_ok n x33 hx34) ?_
      rintro r0 o0 n0 ⟨rfl, rfl, rfl⟩ -
      refine grd_elim h fun hg35 h => ?_
      refine awl_need hτ (v := .d (.str (bstr (([44] : Str) ++ x34)))) rfl rfl (Eq.trans rfl (or_cat _ _)) hg35 ?_
      refine grd_elim h fun hg36 h => ?_
      refine awl_need hτ (v := .d (.str (bstr (v22 ++ (([44] : Str) ++ x34))))) rfl rfl (Eq.trans rfl (or_cat _ _)) hg36 ?_
      refine awl_weak (weak_ofP [] (l := [(0, .d (.sl false (list_.map eCxf32))), (3, .d (.str (bstr v22))), (4, .d (.int .i64 v23)), (25, .d (.str (bstr (v22 ++ (([44] : Str) ++ x34)))))]) (objs := []) rfl (by simp) rfl (by repeat' first | exact trivial | refine ⟨?_, ?_⟩) ⟨rfl, trivial, rfl, trivial, rfl, trivial, rfl, trivial, trivial⟩) ?_
      refine awl_val hτ rfl rfl rfl ?_
      refine awl_nil ?_
      refine aw_region ?_
      refine awl_val hτ rfl rfl rfl ?_
      refine awl_val hτ rfl rfl rfl ?_
      refine awl_val hτ rfl rfl rfl ?_
      refine awl_nil ?_
      exact ⟨(m30, (v22 ++ (([44] : Str) ++ x34)), (w64 (v23 + (1 : Int)))), h, Nat.lt_succ_self m30, (weak_ofP [] (l := [(0, .d (.sl false (list_.map eCxf32))), (3, .d (.str (bstr (v22 ++ (([44] : Str) ++ x34))))), (4, .d (.int .i64 (w64 (v23 + (1 : Int)))))]) (objs := []) rfl (by simp) rfl (by repeat' first | exact trivial | refine ⟨?_, ?_⟩) ⟨rfl, trivial, rfl, trivial, rfl, trivial, trivial⟩)⟩
    · have h := if_f h hc32
      refine aw_exit ?_
      refine aw_seq ?_
      refine aw_region ?_
      refine awl_val hτ rfl rfl rfl ?_
      refine awl_val hτ rfl rfl rfl ?_
      refine awl_nil ?_
      refine aw_weak (weak_ofP [] (l := [(2, .d (.str (bstr v22)))]) (objs := []) rfl (by simp) rfl (by repeat' first | exact trivial | refine ⟨?_, ?_⟩) ⟨rfl, trivial, trivial⟩) ?_
      refine aw_ret ?_
      have hr := Option.some.inj h
      subst hr
      exact ret_objs (.inr rfl) [] (objs' := []) (new := []) rfl (by simp) (by simp) rfl (by repeat' first | exact trivial | refine ⟨?_, ?_⟩) rfl rfl (by repeat' first | exact trivial | refine ⟨?_, ?_⟩) (fun _ => ⟨by simp [V.flat, V.flatA, V.flatC, D.flat], flat_nil⟩) ⟨rfl, rfl, rfl⟩
theorem spec_l01CText_ok (n : Nat) (list_ : List Cx) {r : Str} (h : m_spec_l01CText n list_ = some r) : ACall prog false 106 [.d (.sl false (list_.map eCxf32))] [] (fun v o new => v = .d (.str (bstr r)) ∧ o = [] ∧ new = []) := spec_l01CText_ok_fr0 false n list_ h
theorem spec_l01CText_ok_fr (n : Nat) (list_ : List Cx) {r : Str} (h : m_spec_l01CText n list_ = some r) : ACall prog true 106 [.d (.sl false (list_.map eCxf32))] [] (fun v o new => v = .d (.str (bstr r)) ∧ o = [] ∧ new = []) := spec_l01CText_ok_fr0 true n list_ h

def m_spec_l11Show (n : Nat) (p_ : SPhases) : Option Str :=
  (m_spec_l01CText n [p_.A, p_.B, p_.C]).bind fun x2 =>
  some x2
theorem spec_l11Show_ok_fr0 (fr : Bool) (n : Nat) (p_ : SPhases) {r : Str} (h : m_spec_l11Show n p_ = some r) : ACall prog fr 103 [.agg [.d (.cx .f32 p_.A.re p_.A.im), .d (.cx .f32 p_.B.re p_.B.im), .d (.cx .f32 p_.C.re p_.C.im)]] [] (fun v o new => v = .d (.str (bstr r)) ∧ o = [] ∧ new = []) := by
  refine acall_of_aw hτ func103 rfl (by simp) (by simp) ?_
  unfold m_spec_l11Show at h
  refine aw_seq ?_
  refine aw_region ?_
  refine awl_valH hτ rfl rfl rfl ?_
  refine awl_val hτ rfl rfl rfl ?_
  refine awl_nil ?_
  refine aw_seq ?_
  refine aw_region ?_
  refine awl_val hτ rfl rfl rfl ?_
  refine awl_val hτ rfl rfl rfl ?_
  refine awl_val hτ rfl rfl rfl ?_
  refine awl_val hτ rfl rfl rfl ?_
  refine awl_val hτ rfl rfl rfl ?_
  refine awl_val hτ rfl rfl rfl ?_
  refine awl_valH hτ rfl rfl rfl ?_
  refine awl_weak (weak_ofP [1] (l := [(2, .d (.str (bstr ([] : Str)))), (9, .row 0 ([p_.A, p_.B, p_.C].length) 0 ([p_.A, p_.B, p_.C].length))]) (objs := [.row 1 ([p_.A, p_.B, p_.C].map eCxf32)]) rfl (by simp) rfl (by repeat' first | exact trivial | refine ⟨?_, ?_⟩) ⟨rfl, trivial, rfl, trivial, trivial⟩) ?_
  refine bnd_elim h fun x2 hx2 h => ?_
  refine awl_callP hτ true [] rfl rfl rfl (enterOk func106 rfl rfl) (mapO_cons (exV_view (f := eCxf32) [p_.A, p_.B, p_.C] rfl rfl rfl) mapO_nil) rfl (by simp) ⟨(exVP_view (f := eCxf32) [p_.A, p_.B, p_.C] rfl rfl rfl), trivial⟩ (by repeat' first | exact trivial | refine ⟨?_, ?_⟩) (spec_l01CText_ok_fr n [p_.A, p_.B, p_.C] hx2) ?_
  rintro r0 o0 n0 ⟨rfl, rfl, rfl⟩ -
  refine awl_val hτ rfl rfl rfl ?_
  refine awl_nil ?_
  refine aw_weak (weak_ofP [] (l := [(2, .d (.str (bstr x2)))]) (objs := []) rfl (by simp) rfl (by repeat' first | exact trivial | refine ⟨?_, ?_⟩) ⟨rfl, trivial, trivial⟩) ?_
  refine aw_ret ?_
  have hr := Option.some.inj h
  subst hr
  exact ret_objs (.inr rfl) [] (objs' := []) (new := []) rfl (by simp) (by simp) rfl (by repeat' first | exact trivial | refine ⟨?_, ?_⟩) rfl rfl (by repeat' first | exact trivial | refine ⟨?_, ?_⟩) (fun _ => ⟨by simp [V.flat, V.flatA, V.flatC, D.flat], flat_nil⟩) ⟨rfl, rfl, rfl⟩
theorem spec_l11Show_ok (n : Nat) (p_ : SPhases) {r : Str} (h : m_spec_l11Show n p_ = some r) : ACall prog false 103 [.agg [.d (.cx .f32 p_.A.re p_.A.im), .d (.cx .f32 p_.B.re p_.B.im), .d (.cx .f32 p_.C.re p_.C.im)]] [] (fun v o new => v = .d (.str (bstr r)) ∧ o = [] ∧ new = []) := spec_l11Show_ok_fr0 false n p_ h
theorem spec_l11Show_ok_fr (n : Nat) (p_ : SPhases) {r : Str} (h : m_spec_l11Show n p_ = some r) : ACall prog true 103 [.agg [.d (.cx .f32 p_.A.re p_.A.im), .d (.cx .f32 p_.B.re p_.B.im), .d (.cx .f32 p_.C.re p_.C.im)]] [] (fun v o new => v = .d (.str (bstr r)) ∧ o = [] ∧ new = []) := spec_l11Show_ok_fr0 true n p_ h

def m_spec_l00Src_text (n : Nat) (s_ : SL00Src) (list_ : List Str) : Option (Str × SL00Src) :=
  (m_spec_l00Src_pick n s_ (list_.length : Int)).bind fun x3 =>
  (getI list_ x3.1).bind fun x4 =>
  some (x4, x3.2)
theorem spec_l00Src_text_ok (n : Nat) (s_ : SL00Src) (list_ : List Str) {r : Str × SL00Src} (h : m_spec_l00Src_text n s_ list_ = some r) : ACall prog false 105 [.ptr 0 0, .d (.sl false (list_.map eStr))] [.box [.d (.sl false (s_.code.map eIntu8)), .d (.int .i64 s_.at_), .d (.int .u64 s_.seed)]] (fun v o new => v = .d (.str (bstr r.1)) ∧ o = [.box [.d (.sl false (r.2.code.map eIntu8)), .d (.int .i64 r.2.at_), .d (.int .u64 r.2.seed)]] ∧ new = []) := by
  refine acall_of_aw hτ func105 rfl (by simp) (by simp) ?_
  unfold m_spec_l00Src_text at h
  refine aw_seq ?_
  refine aw_region ?_
  refine awl_val hτ rfl rfl rfl ?_
  refine awl_nil ?_
  refine aw_seq ?_
  refine aw_region ?_
  refine awl_val hτ rfl rfl rfl ?_
  refine awl_val hτ rfl rfl rfl ?_
  refine awl_val hτ rfl rfl rfl ?_
  refine awl_val hτ (v := .d (.int .i64 (list_.length : Int))) rfl rfl (Eq.trans rfl (or_len (f := eStr) list_)) ?_
  refine bnd_elim h fun x3 hx3 h => ?_
  refine awl_callP hτ false [0] rfl rfl rfl (enterOk func44 rfl rfl) rfl rfl (by simp) ⟨trivial, trivial, trivial⟩ (by repeat' first | exact trivial | refine ⟨?_, ?_⟩) (spec_l00Src_pick_ok n s_ (list_.length : Int) hx3) ?_
  rintro r0 o0 n0 ⟨rfl, rfl, rfl⟩ -
  refine bnd_elim h fun x4 hx4 h => ?_
  refine awl_elem hτ rfl rfl rfl (getI_some hx4).1 (map_getI hx4) rfl ?_
  refine awl_val hτ rfl rfl rfl ?_
  refine awl_val hτ rfl rfl rfl ?_
  refine awl_nil ?_
  refine aw_weak (weak_ofP [0] (l := [(4, .d (.str (bstr x4)))]) (objs := [.box [.d (.sl false (x3.2.code.map eIntu8)), .d (.int .i64 x3.2.at_), .d (.int .u64 x3.2.seed)]]) rfl (by simp) rfl (by repeat' first | exact trivial | refine ⟨?_, ?_⟩) ⟨rfl, trivial, trivial⟩) ?_
  refine aw_ret ?_
  have hr := Option.some.inj h
  subst hr
  exact ret_objs (.inr rfl) [] (objs' := [.box [.d (.sl false (x3.2.code.map eIntu8)), .d (.int .i64 x3.2.at_), .d (.int .u64 x3.2.seed)]]) (new := []) rfl (by simp) (by simp) rfl (by repeat' first | exact trivial | refine ⟨?_, ?_⟩) rfl rfl (by repeat' first | exact trivial | refine ⟨?_, ?_⟩) (fun h => nomatch h) ⟨rfl, rfl, rfl⟩

def m_spec_l11DrawLine (n : Nat) (s_ : SL00Src) (d_ : SDesk) : Option (Str × SL00Src) :=
  (m_spec_l00Src_pick n s_ (w64 ((d_.Feeder.Buses.length : Int) + (1 : Int)))).bind fun x81 =>
  (m_spec_l01Dec n x81.1).bind fun x82 =>
  (m_spec_l00Src_pick n x81.2 (4 : Int)).bind fun x83 =>
  (m_spec_l01Dec n (w64 ((1 : Int) + x83.1))).bind fun x84 =>
  (m_spec_l02DrawPhases n x83.2 (40 : Int)).bind fun x85 =>
  (m_spec_l11Show n x85.1).bind fun x86 =>
  (m_spec_l00Src_pick n x85.2 (9 : Int)).bind fun x158 =>
  if x158.1 = (0 : Int) then
    (m_spec_l00Src_text n x158.2 [([] : Str), ([119, 104, 97, 116] : Str), ([115, 111, 117, 114, 99, 101, 32, 110, 111, 110, 101] : Str), ([98, 117, 115, 32, 48, 32, 110, 111, 110, 101, 32, 48, 32, 110, 111, 110, 101, 32, 49] : Str), ([108, 111, 97, 100, 32, 48, 32, 48] : Str), ([108, 111, 97, 100, 32, 48, 32, 51, 32, 110, 111, 110, 101] : Str), ([99, 117, 116, 32, 48] : Str), ([98, 97, 110, 107, 32, 48, 32, 110, 111, 110, 101] : Str), ([116, 97, 112, 32, 48, 32, 49, 32, 49, 32, 49, 32, 51, 100, 48, 48, 48, 48, 48, 48] : Str), ([116, 97, 112, 32, 49, 32, 49, 55, 32, 48, 32, 48, 32, 51, 100, 48, 48, 48, 48, 48, 48] : Str), ([97, 117, 116, 111, 32, 52, 49, 48, 48, 48, 48, 48, 48, 32, 98, 102, 48, 48, 48, 48, 48, 48, 32, 51] : Str), ([97, 116, 32, 48, 32, 48] : Str), ([97, 116, 32, 48, 32, 53, 49] : Str), ([108, 111, 119, 32, 48] : Str), ([98, 97, 110, 100, 32, 52, 49, 48, 48, 48, 48, 48, 48, 32, 51, 102, 48, 48, 48, 48, 48, 48, 32, 120] : Str), ([111, 117, 116, 32, 48, 32, 49, 32, 50] : Str), ([100, 97, 114, 107, 32, 45, 49] : Str), ([112, 97, 116, 104, 32, 120] : Str), ([99, 111, 117, 110, 116, 32, 110, 111, 119] : Str)]).bind fun x160 =>
    some (x160.1, x160.2)
  else
    if x158.1 = (1 : Int) then
      (m_spec_l00Src_pick n x158.2 (5 : Int)).bind fun x162 =>
      (m_spec_l01CText n [(Cx.mk (farith .quo .f32 (FloatKind.nearest .f32 x162.1) (1098907648 : Nat)) (0 : Nat)), (Cx.mk (0 : Nat) (0 : Nat))]).bind fun x163 =>
      grd (([98, 117, 115, 32] : Str).length + x82.length ≤ 9223372036854775807) <|
      grd ((([98, 117, 115, 32] : Str) ++ x82).length + ([32] : Str).length ≤ 9223372036854775807) <|
      grd (((([98, 117, 115, 32] : Str) ++ x82) ++ ([32] : Str)).length + x163.length ≤ 9223372036854775807) <|
      grd ((((([98, 117, 115, 32] : Str) ++ x82) ++ ([32] : Str)) ++ x163).length + ([32] : Str).length ≤ 9223372036854775807) <|
      (m_spec_l00Src_pick n x162.2 (3 : Int)).bind fun x168 =>
      (m_spec_l01Dec n x168.1).bind fun x169 =>
      grd (((((([98, 117, 115, 32] : Str) ++ x82) ++ ([32] : Str)) ++ x163) ++ ([32] : Str)).length + x169.length ≤ 9223372036854775807) <|
      grd ((((((([98, 117, 115, 32] : Str) ++ x82) ++ ([32] : Str)) ++ x163) ++ ([32] : Str)) ++ x169).length + ([32] : Str).length ≤ 9223372036854775807) <|
      grd (((((((([98, 117, 115, 32] : Str) ++ x82) ++ ([32] : Str)) ++ x163) ++ ([32] : Str)) ++ x169) ++ ([32] : Str)).length + x86.length ≤ 9223372036854775807) <|
      grd ((((((((([98, 117, 115, 32] : Str) ++ x82) ++ ([32] : Str)) ++ x163) ++ ([32] : Str)) ++ x169) ++ ([32] : Str)) ++ x86).length + ([32] : Str).length ≤ 9223372036854775807) <|
      (m_spec_l00Src_pick n x168.2 (30 : Int)).bind fun x174 =>
      (m_spec_l01Dec n x174.1).bind fun x175 =>
      grd (((((((((([98, 117, 115, 32] : Str) ++ x82) ++ ([32] : Str)) ++ x163) ++ ([32] : Str)) ++ x169) ++ ([32] : Str)) ++ x86) ++ ([32] : Str)).length + x175.length ≤ 9223372036854775807) <|
      some ((((((((((([98, 117, 115, 32] : Str) ++ x82) ++ ([32] : Str)) ++ x163) ++ ([32] : Str)) ++ x169) ++ ([32] : Str)) ++ x86) ++ ([32] : Str)) ++ x175), x174.2)
    else
      if x158.1 = (2 : Int) then
        (m_spec_l00Src_one n x158.2 (2 : Int)).bind fun x180 =>
        if x180.1 = true then
          grd (([115, 111, 117, 114, 99, 101, 32] : Str).length + x86.length ≤ 9223372036854775807) <|
          some ((([115, 111, 117, 114, 99, 101, 32] : Str) ++ x86), x180.2)
        else
          grd (([108, 111, 97, 100, 32] : Str).length + x82.length ≤ 9223372036854775807) <|
          grd ((([108, 111, 97, 100, 32] : Str) ++ x82).length + ([32] : Str).length ≤ 9223372036854775807) <|
          (m_spec_l00Src_pick n x180.2 (3 : Int)).bind fun x185 =>
          (m_spec_l01Dec n x185.1).bind fun x186 =>
          grd (((([108, 111, 97, 100, 32] : Str) ++ x82) ++ ([32] : Str)).length + x186.length ≤ 9223372036854775807) <|
          grd ((((([108, 111, 97, 100, 32] : Str) ++ x82) ++ ([32] : Str)) ++ x186).length + ([32] : Str).length ≤ 9223372036854775807) <|
          grd (((((([108, 111, 97, 100, 32] : Str) ++ x82) ++ ([32] : Str)) ++ x186) ++ ([32] : Str)).length + x86.length ≤ 9223372036854775807) <|
          some ((((((([108, 111, 97, 100, 32] : Str) ++ x82) ++ ([32] : Str)) ++ x186) ++ ([32] : Str)) ++ x86), x185.2)
      else
        if x158.1 = (3 : Int) then
          (m_spec_l00Src_one n x158.2 (3 : Int)).bind fun x193 =>
          if x193.1 = true then
            grd (([99, 117, 116, 32] : Str).length + x82.length ≤ 9223372036854775807) <|
            some ((([99, 117, 116, 32] : Str) ++ x82), x193.2)
          else
            grd (([98, 97, 110, 107, 32] : Str).length + x82.length ≤ 9223372036854775807) <|
            grd ((([98, 97, 110, 107, 32] : Str) ++ x82).length + ([32] : Str).length ≤ 9223372036854775807) <|
            (m_spec_l00Src_pick n x193.2 (16 : Int)).bind fun x198 =>
            (m_spec_l01Hex n (farith .quo .f32 (FloatKind.nearest .f32 (w64 ((1 : Int) + x198.1))) (1115684864 : Nat))).bind fun x199 =>
            grd (((([98, 97, 110, 107, 32] : Str) ++ x82) ++ ([32] : Str)).length + x199.length ≤ 9223372036854775807) <|
            some ((((([98, 97, 110, 107, 32] : Str) ++ x82) ++ ([32] : Str)) ++ x199), x198.2)
        else
          if x158.1 = (4 : Int) then
            (m_spec_l00Src_pick n x158.2 (7 : Int)).bind fun x202 =>
            (m_spec_l01Dec n (w64 (x202.1 - (3 : Int)))).bind fun x203 =>
            grd (([116, 97, 112, 32] : Str).length + x82.length ≤ 9223372036854775807) <|
            grd ((([116, 97, 112, 32] : Str) ++ x82).length + ([32] : Str).length ≤ 9223372036854775807) <|
            grd (((([116, 97, 112, 32] : Str) ++ x82) ++ ([32] : Str)).length + x203.length ≤ 9223372036854775807) <|
            grd ((((([116, 97, 112, 32] : Str) ++ x82) ++ ([32] : Str)) ++ x203).length + ([32, 48, 32] : Str).length ≤ 9223372036854775807) <|
            grd (((((([116, 97, 112, 32] : Str) ++ x82) ++ ([32] : Str)) ++ x203) ++ ([32, 48, 32] : Str)).length + x84.length ≤ 9223372036854775807) <|
            grd ((((((([116, 97, 112, 32] : Str) ++ x82) ++ ([32] : Str)) ++ x203) ++ ([32, 48, 32] : Str)) ++ x84).length + ([32] : Str).length ≤ 9223372036854775807) <|
            (m_spec_l00Src_pick n x202.2 (5 : Int)).bind fun x210 =>
            (m_spec_l01Hex n (farith .quo .f32 (FloatKind.nearest .f32 x210.1) (1115684864 : Nat))).bind fun x211 =>
            grd (((((((([116, 97, 112, 32] : Str) ++ x82) ++ ([32] : Str)) ++ x203) ++ ([32, 48, 32] : Str)) ++ x84) ++ ([32] : Str)).length + x211.length ≤ 9223372036854775807) <|
            some ((((((((([116, 97, 112, 32] : Str) ++ x82) ++ ([32] : Str)) ++ x203) ++ ([32, 48, 32] : Str)) ++ x84) ++ ([32] : Str)) ++ x211), x210.2)
          else
            if x158.1 = (5 : Int) then
              (m_spec_l00Src_text n x158.2 [([97, 117, 116, 111] : Str), ([98, 97, 110, 100] : Str)]).bind fun x214 =>
              (m_spec_l00Src_pick n x214.2 (12 : Int)).bind fun x215 =>
              (m_spec_l01Hex n (FloatKind.nearest .f32 (w64 ((6 : Int) + x215.1)))).bind fun x216 =>
              grd (x214.1.length + ([32] : Str).length ≤ 9223372036854775807) <|
              grd ((x214.1 ++ ([32] : Str)).length + x216.length ≤ 9223372036854775807) <|
              grd (((x214.1 ++ ([32] : Str)) ++ x216).length + ([32] : Str).length ≤ 9223372036854775807) <|
              (m_spec_l00Src_pick n x215.2 (9 : Int)).bind fun x220 =>
              (m_spec_l01Hex n (farith .quo .f32 (FloatKind.nearest .f32 x220.1) (1090519040 : Nat))).bind fun x221 =>
              grd ((((x214.1 ++ ([32] : Str)) ++ x216) ++ ([32] : Str)).length + x221.length ≤ 9223372036854775807) <|
              grd (((((x214.1 ++ ([32] : Str)) ++ x216) ++ ([32] : Str)) ++ x221).length + ([32] : Str).length ≤ 9223372036854775807) <|
              grd ((((((x214.1 ++ ([32] : Str)) ++ x216) ++ ([32] : Str)) ++ x221) ++ ([32] : Str)).length + x84.length ≤ 9223372036854775807) <|
              some (((((((x214.1 ++ ([32] : Str)) ++ x216) ++ ([32] : Str)) ++ x221) ++ ([32] : Str)) ++ x84), x220.2)
            else
              if x158.1 = (6 : Int) then
                (m_spec_l00Src_one n x158.2 (4 : Int)).bind fun x228 =>
                if x228.1 = true then
                  grd (([108, 111, 119, 32] : Str).length + x84.length ≤ 9223372036854775807) <|
                  some ((([108, 111, 119, 32] : Str) ++ x84), x228.2)
                else
                  (m_spec_l00Src_text n x228.2 [([97, 116] : Str), ([105, 110, 116, 111] : Str)]).bind fun x231 =>
                  grd (x231.1.length + ([32] : Str).length ≤ 9223372036854775807) <|
                  grd ((x231.1 ++ ([32] : Str)).length + x82.length ≤ 9223372036854775807) <|
                  grd (((x231.1 ++ ([32] : Str)) ++ x82).length + ([32] : Str).length ≤ 9223372036854775807) <|
                  grd ((((x231.1 ++ ([32] : Str)) ++ x82) ++ ([32] : Str)).length + x84.length ≤ 9223372036854775807) <|
                  some (((((x231.1 ++ ([32] : Str)) ++ x82) ++ ([32] : Str)) ++ x84), x231.2)
              else
                if x158.1 = (7 : Int) then
                  (m_spec_l00Src_pick n x158.2 (20 : Int)).bind fun x237 =>
                  grd (([111, 117, 116, 32] : Str).length + x82.length ≤ 9223372036854775807) <|
                  grd ((([111, 117, 116, 32] : Str) ++ x82).length + ([32] : Str).length ≤ 9223372036854775807) <|
                  (m_spec_l01Dec n x237.1).bind fun x240 =>
                  grd (((([111, 117, 116, 32] : Str) ++ x82) ++ ([32] : Str)).length + x240.length ≤ 9223372036854775807) <|
                  grd ((((([111, 117, 116, 32] : Str) ++ x82) ++ ([32] : Str)) ++ x240).length + ([32] : Str).length ≤ 9223372036854775807) <|
                  (m_spec_l00Src_pick n x237.2 (8 : Int)).bind fun x243 =>
                  (m_spec_l01Dec n (w64 (x237.1 + x243.1))).bind fun x244 =>
                  grd (((((([111, 117, 116, 32] : Str) ++ x82) ++ ([32] : Str)) ++ x240) ++ ([32] : Str)).length + x244.length ≤ 9223372036854775807) <|
                  some ((((((([111, 117, 116, 32] : Str) ++ x82) ++ ([32] : Str)) ++ x240) ++ ([32] : Str)) ++ x244), x243.2)
                else
                  grd (([112, 97, 116, 104, 32] : Str).length + x82.length ≤ 9223372036854775807) <|
                  grd (([112, 97, 116, 104, 32] : Str).length + x82.length ≤ 9223372036854775807) <|
                  (m_spec_l00Src_text n x158.2 [([108, 111, 115, 116] : Str), ([99, 111, 117, 110, 116] : Str), ([100, 97, 114, 107, 32, 53] : Str), ([100, 97, 114, 107, 32, 49, 50] : Str), (([112, 97, 116, 104, 32] : Str) ++ x82), (([112, 97, 116, 104, 32] : Str) ++ x82)]).bind fun x248 =>
                  some (x248.1, x248.2)
theorem spec_l11DrawLine_ok (n : Nat) (s_ : SL00Src) (d_ : SDesk) {r : Str × SL00Src} (h : m_spec_l11DrawLine n s_ d_ = some r) : ACall prog false 78 [.ptr 0 0, .ptr 1 0] [.box [.d (.sl false (s_.code.map eIntu8)), .d (.int .i64 s_.at_), .d (.int .u64 s_.seed)], .box [.d (.cx .f32 d_.Feeder.Source.A.re d_.Feeder.Source.A.im), .d (.cx .f32 d_.Feeder.Source.B.re d_.Feeder.Source.B.im), .d (.cx .f32 d_.Feeder.Source.C.re d_.Feeder.Source.C.im), .d (.sl false (d_.Feeder.Buses.map eSBus)), .d (.sl false (d_.Taps.map eSTap)), .d (.sl false (d_.List.map eSOutage))]] (fun v o new => v = .d (.str (bstr r.1)) ∧ o = [.box [.d (.sl false (r.2.code.map eIntu8)), .d (.int .i64 r.2.at_), .d (.int .u64 r.2.seed)], .box [.d (.cx .f32 d_.Feeder.Source.A.re d_.Feeder.Source.A.im), .d (.cx .f32 d_.Feeder.Source.B.re d_.Feeder.Source.B.im), .d (.cx .f32 d_.Feeder.Source.C.re d_.Feeder.Source.C.im), .d (.sl false (d_.Feeder.Buses.map eSBus)), .d (.sl false (d_.Taps.map eSTap)), .d (.sl false (d_.List.map eSOutage))]] ∧ new = []) := by
  refine acall_of_aw hτ func78 rfl (by simp) (by simp) ?_
  unfold m_spec_l11DrawLine at h
  refine aw_seq ?_
  refine aw_region ?_
  refine awl_val hτ rfl rfl rfl ?_
  refine awl_nil ?_
  refine aw_seq ?_
  refine aw_region ?_
  refine awl_val hτ rfl rfl rfl ?_
  refine awl_val hτ rfl rfl rfl ?_
  refine awl_val hτ rfl rfl rfl ?_
  refine awl_val hτ rfl rfl rfl ?_
  refine awl_val hτ rfl rfl rfl ?_
  refine awl_val hτ rfl rfl rfl ?_
  refine awl_val hτ (v := .d (.int .i64 (d_.Feeder.Buses.length : Int))) rfl rfl (Eq.trans rfl (or_len (f := eSBus) d_.Feeder.Buses)) ?_
  refine awl_val hτ rfl rfl rfl ?_
  refine bnd_elim h fun x81 hx81 h => ?_
  refine awl_callP hτ false [0] rfl rfl rfl (enterOk func44 rfl rfl) rfl rfl (by simp) ⟨trivial, trivial, trivial⟩ (by repeat' first | exact trivial | refine ⟨?_, ?_⟩) (spec_l00Src_pick_ok n s_ (w64 ((d_.Feeder.Buses.length : Int) + (1 : Int))) hx81) ?_
  rintro r0 o0 n0 ⟨rfl, rfl, rfl⟩ -
  refine bnd_elim h fun x82 hx82 h => ?_
  refine awl_callP hτ false [] rfl rfl rfl (enterOk func102 rfl rfl) rfl rfl (by simp) ⟨trivial, trivial⟩ (by repeat' first | exact trivial | refine ⟨?_, ?_⟩) (spec_l01Dec_ok n x81.1 hx82) ?_
  rintro r0 o0 n0 ⟨rfl, rfl, rfl⟩ -
  refine awl_val hτ rfl rfl rfl ?_
  refine awl_nil ?_
  refine aw_seq ?_
  refine aw_weak (weak_ofP [0, 1] (l := [(0, .ptr 0 0), (5, .d (.str (bstr x82)))]) (objs := [.box [.d (.sl false (x81.2.code.map eIntu8)), .d (.int .i64 x81.2.at_), .d (.int .u64 x81.2.seed)], .box [.d (.cx .f32 d_.Feeder.Source.A.re d_.Feeder.Source.A.im), .d (.cx .f32 d_.Feeder.Source.B.re d_.Feeder.Source.B.im), .d (.cx .f32 d_.Feeder.Source.C.re d_.Feeder.Source.C.im), .d (.sl false (d_.Feeder.Buses.map eSBus)), .d (.sl false (d_.Taps.map eSTap)), .d (.sl false (d_.List.map eSOutage))]]) rfl (by simp) rfl (by repeat' first | exact trivial | refine ⟨?_, ?_⟩) ⟨rfl, trivial, rfl, trivial, trivial⟩) ?_
  refine aw_region ?_
  refine awl_val hτ rfl rfl rfl ?_
  refine bnd_elim h fun x83 hx83 h => ?_
  refine awl_callP hτ false [0] rfl rfl rfl (enterOk func44 rfl rfl) rfl rfl (by simp) ⟨trivial, trivial, trivial⟩ (by repeat' first | exact trivial | refine ⟨?_, ?_⟩) (spec_l00Src_pick_ok n x81.2 (4 : Int) hx83) ?_
  rintro r0 o0 n0 ⟨rfl, rfl, rfl⟩ -
  refine awl_val hτ rfl rfl rfl ?_
  refine bnd_elim h fun x84 hx84 h => ?_
  refine awl_callP hτ false [] rfl rfl rfl (enterOk func102 rfl rfl) rfl rfl (by simp) ⟨trivial, trivial⟩ (by repeat' first | exact trivial | refine ⟨?_, ?_⟩) (spec_l01Dec_ok n (w64 ((1 : Int) + x83.1)) hx84) ?_
  rintro r0 o0 n0 ⟨rfl, rfl, rfl⟩ -
  refine awl_val hτ rfl rfl rfl ?_
  refine awl_nil ?_
  refine aw_seq ?_
  refine aw_region ?_
  refine awl_val hτ rfl rfl rfl ?_
  refine bnd_elim h fun x85 hx85 h => ?_
  refine awl_callP hτ false [0] rfl rfl rfl (enterOk func104 rfl rfl) rfl rfl (by simp) ⟨trivial, trivial, trivial⟩ (by repeat' first | exact trivial | refine ⟨?_, ?_⟩) (spec_l02DrawPhases_ok n x83.2 (40 : Int) hx85) ?_
  rintro r0 o0 n0 ⟨rfl, rfl, rfl⟩ -
  refine bnd_elim h fun x86 hx86 h => ?_
  refine awl_callP hτ false [] rfl rfl rfl (enterOk func103 rfl rfl) rfl rfl (by simp) ⟨(by repeat' first | exact trivial | refine ⟨?_, ?_⟩), trivial⟩ (by repeat' first | exact trivial | refine ⟨?_, ?_⟩) (spec_l11Show_ok n x85.1 hx86) ?_
  rintro r0 o0 n0 ⟨rfl, rfl, rfl⟩ -
  refine awl_val hτ rfl rfl rfl ?_
  refine awl_nil ?_
  refine aw_seq ?_
  refine aw_seq ?_
  refine aw_weak (weak_ofP [0, 1] (l := [(0, .ptr 0 0), (5, .d (.str (bstr x82))), (6, .d (.str (bstr x84))), (7, .d (.str (bstr x86)))]) (objs := [.box [.d (.sl false (x85.2.code.map eIntu8)), .d (.int .i64 x85.2.at_), .d (.int .u64 x85.2.seed)], .box [.d (.cx .f32 d_.Feeder.Source.A.re d_.Feeder.Source.A.im), .d (.cx .f32 d_.Feeder.Source.B.re d_.Feeder.Source.B.im), .d (.cx .f32 d_.Feeder.Source.C.re d_.Feeder.Source.C.im), .d (.sl false (d_.Feeder.Buses.map eSBus)), .d (.sl false (d_.Taps.map eSTap)), .d (.sl false (d_.List.map eSOutage))]]) rfl (by simp) rfl (by repeat' first | exact trivial | refine ⟨?_, ?_⟩) ⟨rfl, trivial, rfl, trivial, rfl, trivial, rfl, trivial, trivial⟩) ?_
  refine aw_region ?_
  refine awl_val hτ rfl rfl rfl ?_
  refine bnd_elim h fun x158 hx158 h => ?_
  refine awl_callP hτ false [0] rfl rfl rfl (enterOk func44 rfl rfl) rfl rfl (by simp) ⟨trivial, trivial, trivial⟩ (by repeat' first | exact trivial | refine ⟨?_, ?_⟩) (spec_l00Src_pick_ok n x85.2 (9 : Int) hx158) ?_
  rintro r0 o0 n0 ⟨rfl, rfl, rfl⟩ -
  refine awl_nil ?_
  refine aw_block ?_
  refine aw_seq ?_
  refine aw_region ?_
  refine awl_val hτ (v := .d (.bool (decide (x158.1 = (0 : Int))))) rfl rfl (or_ieq _ _) ?_
  refine awl_val hτ rfl rfl rfl ?_
  refine awl_nil ?_
  refine aw_cond rfl (fun hc159 => ?_) (fun hc159 => ?_)
  · have h := if_t h hc159
    refine aw_seq ?_
    refine aw_region ?_
    refine awl_val hτ rfl rfl rfl ?_
    refine awl_valS hτ 1 19 (([([] : Str), ([119, 104, 97, 116] : Str), ([115, 111, 117, 114, 99, 101, 32, 110, 111, 110, 101] : Str), ([98, 117, 115, 32, 48, 32, 110, 111, 110, 101, 32, 48, 32, 110, 111, 110, 101, 32, 49] : Str), ([108, 111, 97, 100, 32, 48, 32, 48] : Str), ([108, 111, 97, 100, 32, 48, 32, 51, 32, 110, 111, 110, 101] : Str), ([99, 117, 116, 32, 48] : Str), ([98, 97, 110, 107, 32, 48, 32, 110, 111, 110, 101] : Str), ([116, 97, 112, 32, 48, 32, 49, 32, 49, 32, 49, 32, 51, 100, 48, 48, 48, 48, 48, 48] : Str), ([116, 97, 112, 32, 49, 32, 49, 55, 32, 48, 32, 48, 32, 51, 100, 48, 48, 48, 48, 48, 48] : Str), ([97, 117, 116, 111, 32, 52, 49, 48, 48, 48, 48, 48, 48, 32, 98, 102, 48, 48, 48, 48, 48, 48, 32, 51] : Str), ([97, 116, 32, 48, 32, 48] : Str), ([97, 116, 32, 48, 32, 53, 49] : Str), ([108, 111, 119, 32, 48] : Str), ([98, 97, 110, 100, 32, 52, 49, 48, 48, 48, 48, 48, 48, 32, 51, 102, 48, 48, 48, 48, 48, 48, 32, 120] : Str), ([111, 117, 116, 32, 48, 32, 49, 32, 50] : Str), ([100, 97, 114, 107, 32, 45, 49] : Str), ([112, 97, 116, 104, 32, 120] : Str), ([99, 111, 117, 110, 116, 32, 110, 111, 119] : Str)] : List Str).map eStr) rfl rfl (by kernel_rfl) ?_
    refine awl_weak (weak_ofP [0, 1] (l := [(34, .ptr 0 0), (35, .d (.sl false ([([] : Str), ([119, 104, 97, 116] : Str), ([115, 111, 117, 114, 99, 101, 32, 110, 111, 110, 101] : Str), ([98, 117, 115, 32, 48, 32, 110, 111, 110, 101, 32, 48, 32, 110, 111, 110, 101, 32, 49] : Str), ([108, 111, 97, 100, 32, 48, 32, 48] : Str), ([108, 111, 97, 100, 32, 48, 32, 51, 32, 110, 111, 110, 101] : Str), ([99, 117, 116, 32, 48] : Str), ([98, 97, 110, 107, 32, 48, 32, 110, 111, 110, 101] : Str), ([116, 97, 112, 32, 48, 32, 49, 32, 49, 32, 49, 32, 51, 100, 48, 48, 48, 48, 48, 48] : Str), ([116, 97, 112, 32, 49, 32, 49, 55, 32, 48, 32, 48, 32, 51, 100, 48, 48, 48, 48, 48, 48] : Str), ([97, 117, 116, 111, 32, 52, 49, 48, 48, 48, 48, 48, 48, 32, 98, 102, 48, 48, 48, 48, 48, 48, 32, 51] : Str), ([97, 116, 32, 48, 32, 48] : Str), ([97, 116, 32, 48, 32, 53, 49] : Str), ([108, 111, 119, 32, 48] : Str), ([98, 97, 110, 100, 32, 52, 49, 48, 48, 48, 48, 48, 48, 32, 51, 102, 48, 48, 48, 48, 48, 48, 32, 120] : Str), ([111, 117, 116, 32, 48, 32, 49, 32, 50] : Str), ([100, 97, 114, 107, 32, 45, 49] : Str), ([112, 97, 116, 104, 32, 120] : Str), ([99, 111, 117, 110, 116, 32, 110, 111, 119] : Str)].map eStr)))]) (objs := [.box [.d (.sl false (x158.2.code.map eIntu8)), .d (.int .i64 x158.2.at_), .d (.int .u64 x158.2.seed)], .box [.d (.cx .f32 d_.Feeder.Source.A.re d_.Feeder.Source.A.im), .d (.cx .f32 d_.Feeder.Source.B.re d_.Feeder.Source.B.im), .d (.cx .f32 d_.Feeder.Source.C.re d_.Feeder.Source.C.im), .d (.sl false (d_.Feeder.Buses.map eSBus)), .d (.sl false (d_.Taps.map eSTap)), .d (.sl false (d_.List.map eSOutage))]]) rfl (by simp) rfl (by repeat' first | exact trivial | refine ⟨?_, ?_⟩) ⟨rfl, trivial, (exV_view (f := eStr) [([] : Str), ([119, 104, 97, 116] : Str), ([115, 111, 117, 114, 99, 101, 32, 110, 111, 110, 101] : Str), ([98, 117, 115, 32, 48, 32, 110, 111, 110, 101, 32, 48, 32, 110, 111, 110, 101, 32, 49] : Str), ([108, 111, 97, 100, 32, 48, 32, 48] : Str), ([108, 111, 97, 100, 32, 48, 32, 51, 32, 110, 111, 110, 101] : Str), ([99, 117, 116, 32, 48] : Str), ([98, 97, 110, 107, 32, 48, 32, 110, 111, 110, 101] : Str), ([116, 97, 112, 32, 48, 32, 49, 32, 49, 32, 49, 32, 51, 100, 48, 48, 48, 48, 48, 48] : Str), ([116, 97, 112, 32, 49, 32, 49, 55, 32, 48, 32, 48, 32, 51, 100, 48, 48, 48, 48, 48, 48] : Str), ([97, 117, 116, 111, 32, 52, 49, 48, 48, 48, 48, 48, 48, 32, 98, 102, 48, 48, 48, 48, 48, 48, 32, 51] : Str), ([97, 116, 32, 48, 32, 48] : Str), ([97, 116, 32, 48, 32, 53, 49] : Str), ([108, 111, 119, 32, 48] : Str), ([98, 97, 110, 100, 32, 52, 49, 48, 48, 48, 48, 48, 48, 32, 51, 102, 48, 48, 48, 48, 48, 48, 32, 120] : Str), ([111, 117, 116, 32, 48, 32, 49, 32, 50] : Str), ([100, 97, 114, 107, 32, 45, 49] : Str), ([112, 97, 116, 104, 32, 120] : Str), ([99, 111, 117, 110, 116, 32, 110, 111, 119] : Str)] rfl rfl rfl), (exVP_view (f := eStr) [([] : Str), ([119, 104, 97, 116] : Str), ([115, 111, 117, 114, 99, 101, 32, 110, 111, 110, 101] : Str), ([98, 117, 115, 32, 48, 32, 110, 111, 110, 101, 32, 48, 32, 110, 111, 110, 101, 32, 49] : Str), ([108, 111, 97, 100, 32, 48, 32, 48] : Str), ([108, 111, 97, 100, 32, 48, 32, 51, 32, 110, 111, 110, 101] : Str), ([99, 117, 116, 32, 48] : Str), ([98, 97, 110, 107, 32, 48, 32, 110, 111, 110, 101] : Str), ([116, 97, 112, 32, 48, 32, 49, 32, 49, 32, 49, 32, 51, 100, 48, 48, 48, 48, 48, 48] : Str), ([116, 97, 112, 32, 49, 32, 49, 55, 32, 48, 32, 48, 32, 51, 100, 48, 48, 48, 48, 48, 48] : Str), ([97, 117, 116, 111, 32, 52, 49, 48, 48, 48, 48, 48, 48, 32, 98, 102, 48, 48, 48, 48, 48, 48, 32, 51] : Str), ([97, 116, 32, 48, 32, 48] : Str), ([97, 116, 32, 48, 32, 53, 49] : Str), ([108, 111, 119, 32, 48] : Str), ([98, 97, 110, 100, 32, 52, 49, 48, 48, 48, 48, 48, 48, 32, 51, 102, 48, 48, 48, 48, 48, 48, 32, 120] : Str), ([111, 117, 116, 32, 48, 32, 49, 32, 50] : Str), ([100, 97, 114, 107, 32, 45, 49] : Str), ([112, 97, 116, 104, 32, 120] : Str), ([99, 111, 117, 110, 116, 32, 110, 111, 119] : Str)] rfl rfl rfl), trivial⟩) ?_
    refine bnd_elim h fun x160 hx160 h => ?_
    refine awl_callP hτ false [0] rfl rfl rfl (enterOk func105 rfl rfl) rfl rfl (by simp) ⟨trivial, trivial, trivial⟩ (by repeat' first | exact trivial | refine ⟨?_, ?_⟩) (spec_l00Src_text_ok n x158.2 [([] : Str), ([119, 104, 97, 116] : Str), ([115, 111, 117, 114, 99, 101, 32, 110, 111, 110, 101] : Str), ([98, 117, 115, 32, 48, 32, 110, 111, 110, 101, 32, 48, 32, 110, 111, 110, 101, 32, 49] : Str), ([108, 111, 97, 100, 32, 48, 32, 48] : Str), ([108, 111, 97, 100, 32, 48, 32, 51, 32, 110, 111, 110, 101] : Str), ([99, 117, 116, 32, 48] : Str), ([98, 97, 110, 107, 32, 48, 32, 110, 111, 110, 101] : Str), ([116, 97, 112, 32, 48, 32, 49, 32, 49, 32, 49, 32, 51, 100, 48, 48, 48, 48, 48, 48] : Str), ([116, 97, 112, 32, 49, 32, 49, 55, 32, 48, 32, 48, 32, 51, 100, 48, 48, 48, 48, 48, 48] : Str), ([97, 117, 116, 111, 32, 52, 49, 48, 48, 48, 48, 48, 48, 32, 98, 102, 48, 48, 48, 48, 48, 48, 32, 51] : Str), ([97, 116, 32, 48, 32, 48] : Str), ([97, 116, 32, 48, 32, 53, 49] : Str), ([108, 111, 119, 32, 48] : Str), ([98, 97, 110, 100, 32, 52, 49, 48, 48, 48, 48, 48, 48, 32, 51, 102, 48, 48, 48, 48, 48, 48, 32, 120] : Str), ([111, 117, 116, 32, 48, 32, 49, 32, 50] : Str), ([100, 97, 114, 107, 32, 45, 49] : Str), ([112, 97, 116, 104, 32, 120] : Str), ([99, 111, 117, 110, 116, 32, 110, 111, 119] : Str)] hx160) ?_
    rintro r0 o0 n0 ⟨rfl, rfl, rfl⟩ -
    refine awl_val hτ rfl rfl rfl ?_
    refine awl_nil ?_
    refine aw_weak (weak_ofP [0, 1] (l := [(4, .d (.str (bstr x160.1)))]) (objs := [.box [.d (.sl false (x160.2.code.map eIntu8)), .d (.int .i64 x160.2.at_), .d (.int .u64 x160.2.seed)], .box [.d (.cx .f32 d_.Feeder.Source.A.re d_.Feeder.Source.A.im), .d (.cx .f32 d_.Feeder.Source.B.re d_.Feeder.Source.B.im), .d (.cx .f32 d_.Feeder.Source.C.re d_.Feeder.Source.C.im), .d (.sl false (d_.Feeder.Buses.map eSBus)), .d (.sl false (d_.Taps.map eSTap)), .d (.sl false (d_.List.map eSOutage))]]) rfl (by simp) rfl (by repeat' first | exact trivial | refine ⟨?_, ?_⟩) ⟨rfl, trivial, trivial⟩) ?_
    refine aw_ret ?_
    have hr := Option.some.inj h
    subst hr
    exact ret_objs (.inr rfl) [] (objs' := [.box [.d (.sl false (x160.2.code.map eIntu8)), .d (.int .i64 x160.2.at_), .d (.int .u64 x160.2.seed)], .box [.d (.cx .f32 d_.Feeder.Source.A.re d_.Feeder.Source.A.im), .d (.cx .f32 d_.Feeder.Source.B.re d_.Feeder.Source.B.im), .d (.cx .f32 d_.Feeder.Source.C.re d_.Feeder.Source.C.im), .d (.sl false (d_.Feeder.Buses.map eSBus)), .d (.sl false (d_.Taps.map eSTap)), .d (.sl false (d_.List.map eSOutage))]]) (new := []) rfl (by simp) (by simp) rfl (by repeat' first | exact trivial | refine ⟨?_, ?_⟩) rfl rfl (by repeat' first | exact trivial | refine ⟨?_, ?_⟩) (fun h => nomatch h) ⟨rfl, rfl, rfl⟩
  · have h := if_f h hc159
    refine aw_seq ?_
    refine aw_region ?_
    refine awl_val hτ (v := .d (.bool (decide (x158.1 = (1 : Int))))) rfl rfl (or_ieq _ _) ?_
    refine awl_val hτ rfl rfl rfl ?_
    refine awl_nil ?_
    refine aw_weak (weak_ofP [0, 1] (l := [(0, .ptr 0 0), (5, .d (.str (bstr x82))), (6, .d (.str (bstr x84))), (7, .d (.str (bstr x86))), (31, .d (.int .i64 x158.1)), (37, .d (.bool (decide (x158.1 = (1 : Int)))))]) (objs := [.box [.d (.sl false (x158.2.code.map eIntu8)), .d (.int .i64 x158.2.at_), .d (.int .u64 x158.2.seed)], .box [.d (.cx .f32 d_.Feeder.Source.A.re d_.Feeder.Source.A.im), .d (.cx .f32 d_.Feeder.Source.B.re d_.Feeder.Source.B.im), .d (.cx .f32 d_.Feeder.Source.C.re d_.Feeder.Source.C.im), .d (.sl false (d_.Feeder.Buses.map eSBus)), .d (.sl false (d_.Taps.map eSTap)), .d (.sl false (d_.List.map eSOutage))]]) rfl (by simp) rfl (by repeat' first | exact trivial | refine ⟨?_, ?_⟩) ⟨rfl, trivial, rfl, trivial, rfl, trivial, rfl, trivial, rfl, trivial, rfl, trivial, trivial⟩) ?_
    refine aw_cond rfl (fun hc161 => ?_) (fun hc161 => ?_)
    · have h := if_t h hc161
      refine aw_seq ?_
      refine aw_region ?_
      refine awl_val hτ rfl rfl rfl ?_
      refine bnd_elim h fun x162 hx162 h => ?_
      refine awl_callP hτ false [0] rfl rfl rfl (enterOk func44 rfl rfl) rfl rfl (by simp) ⟨trivial, trivial, trivial⟩ (by repeat' first | exact trivial | refine ⟨?_, ?_⟩) (spec_l00Src_pick_ok n x158.2 (5 : Int) hx162) ?_
      rintro r0 o0 n0 ⟨rfl, rfl, rfl⟩ -
      refine awl_val hτ rfl rfl rfl ?_
      refine awl_val hτ rfl rfl rfl ?_
      refine awl_val hτ rfl rfl rfl ?_
      refine awl_valH hτ rfl rfl rfl ?_
      refine awl_weak (weak_ofP [0, 1, 2] (l := [(0, .ptr 0 0), (5, .d (.str (bstr x82))), (7, .d (.str (bstr x86))), (44, .row 2 ([(Cx.mk (farith .quo .f32 (FloatKind.nearest .f32 x162.1) (1098907648 : Nat)) (0 : Nat)), (Cx.mk (0 : Nat) (0 : Nat))].length) 0 ([(Cx.mk (farith .quo .f32 (FloatKind.nearest .f32 x162.1) (1098907648 : Nat)) (0 : Nat)), (Cx.mk (0 : Nat) (0 : Nat))].length))]) (objs := [.box [.d (.sl false (x162.2.code.map eIntu8)), .d (.int .i64 x162.2.at_), .d (.int .u64 x162.2.seed)], .box [.d (.cx .f32 d_.Feeder.Source.A.re d_.Feeder.Source.A.im), .d (.cx .f32 d_.Feeder.Source.B.re d_.Feeder.Source.B.im), .d (.cx .f32 d_.Feeder.Source.C.re d_.Feeder.Source.C.im), .d (.sl false (d_.Feeder.Buses.map eSBus)), .d (.sl false (d_.Taps.map eSTap)), .d (.sl false (d_.List.map eSOutage))], .row 1 ([(Cx.mk (farith .quo .f32 (FloatKind.nearest .f32 x162.1) (1098907648 : Nat)) (0 : Nat)), (Cx.mk (0 : Nat) (0 : Nat))].map eCxf32)]) rfl (by simp) rfl (by repeat' first | exact trivial | refine ⟨?_, ?_⟩) ⟨rfl, trivial, rfl, trivial, rfl, trivial, rfl, trivial, trivial⟩) ?_
      refine bnd_elim h fun x163 hx163 h => ?_
      refine awl_callP hτ true [] rfl rfl rfl (enterOk func106 rfl rfl) (mapO_cons (exV_view (f := eCxf32) [(Cx.mk (farith .quo .f32 (FloatKind.nearest .f32 x162.1) (1098907648 : Nat)) (0 : Nat)), (Cx.mk (0 : Nat) (0 : Nat))] rfl rfl rfl) mapO_nil) rfl (by simp) ⟨(exVP_view (f := eCxf32) [(Cx.mk (farith .quo .f32 (FloatKind.nearest .f32 x162.1) (1098907648 : Nat)) (0 : Nat)), (Cx.mk (0 : Nat) (0 : Nat))] rfl rfl rfl), trivial⟩ (by repeat' first | exact trivial | refine ⟨?_, ?_⟩) (spec_l01CText_ok_fr n [(Cx.mk (farith .quo .f32 (FloatKind.nearest .f32 x162.1) (1098907648 : Nat)) (0 : Nat)), (Cx.mk (0 : Nat) (0 : Nat))] hx163) ?_
      rintro r0 o0 n0 ⟨rfl, rfl, rfl⟩ -
      refine awl_val hτ rfl rfl rfl ?_
      refine awl_nil ?_
      refine aw_seq ?_
      refine aw_region ?_
      refine awl_val hτ rfl rfl rfl ?_
      refine grd_elim h fun hg164 h => ?_
      refine awl_need hτ (v := .d (.str (bstr (([98, 117, 115, 32] : Str) ++ x82)))) rfl rfl (Eq.trans rfl (or_cat _ _)) hg164 ?_
      refine grd_elim h fun hg165 h => ?_
      refine awl_need hτ (v := .d (.str (bstr ((([98, 117, 115, 32] : Str) ++ x82) ++ ([32] : Str))))) rfl rfl (Eq.trans rfl (or_cat _ _)) hg165 ?_
      refine awl_val hτ rfl rfl rfl ?_
      refine grd_elim h fun hg166 h => ?_
      refine awl_need hτ (v := .d (.str (bstr (((([98, 117, 115, 32] : Str) ++ x82) ++ ([32] : Str)) ++ x163)))) rfl rfl (Eq.trans rfl (or_cat _ _)) hg166 ?_
      refine grd_elim h fun hg167 h => ?_
      refine awl_need hτ (v := .d (.str (bstr ((((([98, 117, 115, 32] : Str) ++ x82) ++ ([32] : Str)) ++ x163) ++ ([32] : Str))))) rfl rfl (Eq.trans rfl (or_cat _ _)) hg167 ?_
      refine awl_val hτ rfl rfl rfl ?_
      refine bnd_elim h fun x168 hx168 h => ?_
      refine awl_callP hτ false [0] rfl rfl rfl (enterOk func44 rfl rfl) rfl rfl (by simp) ⟨trivial, trivial, trivial⟩ (by repeat' first | exact trivial | refine ⟨?_, ?_⟩) (spec_l00Src_pick_ok n x162.2 (3 : Int) hx168) ?_
      rintro r0 o0 n0 ⟨rfl, rfl, rfl⟩ -
      refine bnd_elim h fun x169 hx169 h => ?_
      refine awl_callP hτ false [] rfl rfl rfl (enterOk func102 rfl rfl) rfl rfl (by simp) ⟨trivial, trivial⟩ (by repeat' first | exact trivial | refine ⟨?_, ?_⟩) (spec_l01Dec_ok n x168.1 hx169) ?_
      rintro r0 o0 n0 ⟨rfl, rfl, rfl⟩ -
      refine grd_elim h fun hg170 h => ?_
      refine awl_need hτ (v := .d (.str (bstr (((((([98, 117, 115, 32] : Str) ++ x82) ++ ([32] : Str)) ++ x163) ++ ([32] : Str)) ++ x169)))) rfl rfl (Eq.trans rfl (or_cat _ _)) hg170 ?_
      refine awl_weak (weak_ofP [0, 1] (l := [(0, .ptr 0 0), (7, .d (.str (bstr x86))), (55, .d (.str (bstr (((((([98, 117, 115, 32] : Str) ++ x82) ++ ([32] : Str)) ++ x163) ++ ([32] : Str)) ++ x169))))]) (objs := [.box [.d (.sl false (x168.2.code.map eIntu8)), .d (.int .i64 x168.2.at_), .d (.int .u64 x168.2.seed)], .box [.d (.cx .f32 d_.Feeder.Source.A.re d_.Feeder.Source.A.im), .d (.cx .f32 d_.Feeder.Source.B.re d_.Feeder.Source.B.im), .d (.cx .f32 d_.Feeder.Source.C.re d_.Feeder.Source.C.im), .d (.sl false (d_.Feeder.Buses.map eSBus)), .d (.sl false (d_.Taps.map eSTap)), .d (.sl false (d_.List.map eSOutage))]]) rfl (by simp) rfl (by repeat' first | exact trivial | refine ⟨?_, ?_⟩) ⟨rfl, trivial, rfl, trivial, rfl, trivial, trivial⟩) ?_
      refine grd_elim h fun hg171 h => ?_
      refine awl_need hτ (v := .d (.str (bstr ((((((([98, 117, 115, 32] : Str) ++ x82) ++ ([32] : Str)) ++ x163) ++ ([32] : Str)) ++ x169) ++ ([32] : Str))))) rfl rfl (Eq.trans rfl (or_cat _ _)) hg171 ?_
      refine awl_val hτ rfl rfl rfl ?_
      refine grd_elim h fun hg172 h => ?_
      refine awl_need hτ (v := .d (.str (bstr (((((((([98, 117, 115, 32] : Str) ++ x82) ++ ([32] : Str)) ++ x163) ++ ([32] : Str)) ++ x169) ++ ([32] : Str)) ++ x86)))) rfl rfl (Eq.trans rfl (or_cat _ _)) hg172 ?_
      refine grd_elim h fun hg173 h => ?_
      refine awl_need hτ (v := .d (.str (bstr ((((((((([98, 117, 115, 32] : Str) ++ x82) ++ ([32] : Str)) ++ x163) ++ ([32] : Str)) ++ x169) ++ ([32] : Str)) ++ x86) ++ ([32] : Str))))) rfl rfl (Eq.trans rfl (or_cat _ _)) hg173 ?_
      refine awl_val hτ rfl rfl rfl ?_
      refine bnd_elim h fun x174 hx174 h => ?_
      refine awl_callP hτ false [0] rfl rfl rfl (enterOk func44 rfl rfl) rfl rfl (by simp) ⟨trivial, trivial, trivial⟩ (by repeat' first | exact trivial | refine ⟨?_, ?_⟩) (spec_l00Src_pick_ok n x168.2 (30 : Int) hx174) ?_
      rintro r0 o0 n0 ⟨rfl, rfl, rfl⟩ -
      refine bnd_elim h fun x175 hx175 h => ?_
      refine awl_callP hτ false [] rfl rfl rfl (enterOk func102 rfl rfl) rfl rfl (by simp) ⟨trivial, trivial⟩ (by repeat' first | exact trivial | refine ⟨?_, ?_⟩) (spec_l01Dec_ok n x174.1 hx175) ?_
      rintro r0 o0 n0 ⟨rfl, rfl, rfl⟩ -
      refine grd_elim h fun hg176 h => ?_
      refine awl_need hτ (v := .d (.str (bstr (((((((((([98, 117, 115, 32] : Str) ++ x82) ++ ([32] : Str)) ++ x163) ++ ([32] : Str)) ++ x169) ++ ([32] : Str)) ++ x86) ++ ([32] : Str)) ++ x175)))) rfl rfl (Eq.trans rfl (or_cat _ _)) hg176 ?_
      refine awl_val hτ rfl rfl rfl ?_
      refine awl_nil ?_
      refine aw_weak (weak_ofP [0, 1] (l := [(4, .d (.str (bstr (((((((((([98, 117, 115, 32] : Str) ++ x82) ++ ([32] : Str)) ++ x163) ++ ([32] : Str)) ++ x169) ++ ([32] : Str)) ++ x86) ++ ([32] : Str)) ++ x175))))]) (objs := [.box [.d (.sl false (x174.2.code.map eIntu8)), .d (.int .i64 x174.2.at_), .d (.int .u64 x174.2.seed)], .box [.d (.cx .f32 d_.Feeder.Source.A.re d_.Feeder.Source.A.im), .d (.cx .f32 d_.Feeder.Source.B.re d_.Feeder.Source.B.im), .d (.cx .f32 d_.Feeder.Source.C.re d_.Feeder.Source.C.im), .d (.sl false (d_.Feeder.Buses.map eSBus)), .d (.sl false (d_.Taps.map eSTap)), .d (.sl false (d_.List.map eSOutage))]]) rfl (by simp) rfl (by repeat' first | exact trivial | refine ⟨?_, ?_⟩) ⟨rfl, trivial, trivial⟩) ?_
      refine aw_ret ?_
      have hr := Option.some.inj h
      subst hr
      exact ret_objs (.inr rfl) [] (objs' := [.box [.d (.sl false (x174.2.code.map eIntu8)), .d (.int .i64 x174.2.at_), .d (.int .u64 x174.2.seed)], .box [.d (.cx .f32 d_.Feeder.Source.A.re d_.Feeder.Source.A.im), .d (.cx .f32 d_.Feeder.Source.B.re d_.Feeder.Source.B.im), .d (.cx .f32 d_.Feeder.Source.C.re d_.Feeder.Source.C.im), .d (.sl false (d_.Feeder.Buses.map eSBus)), .d (.sl false (d_.Taps.map eSTap)), .d (.sl false (d_.List.map eSOutage))]]) (new := []) rfl (by simp) (by simp) rfl (by repeat' first | exact trivial | refine ⟨?_, ?_⟩) rfl rfl (by repeat' first | exact trivial | refine ⟨?_, ?_⟩) (fun h => nomatch h) ⟨rfl, rfl, rfl⟩
    · have h := if_f h hc161
      refine aw_seq ?_
      refine aw_region ?_
      refine awl_val hτ (v := .d (.bool (decide (x158.1 = (2 : Int))))) rfl rfl (or_ieq _ _) ?_
      refine awl_val hτ rfl rfl rfl ?_
      refine awl_nil ?_
      refine aw_cond rfl (fun hc177 => ?_) (fun hc177 => ?_)
      · have h := if_t h hc177
        refine aw_seq ?_
        refine aw_seq ?_
        refine aw_region ?_
        refine awl_val hτ rfl rfl rfl ?_
        refine bnd_elim h fun x180 hx180 h => ?_
        refine awl_callP hτ false [0] rfl rfl rfl (enterOk func56 rfl rfl) rfl rfl (by simp) ⟨trivial, trivial, trivial⟩ (by repeat' first | exact trivial | refine ⟨?_, ?_⟩) (spec_l00Src_one_ok n x158.2 (2 : Int) hx180) ?_
        rintro r0 o0 n0 ⟨rfl, rfl, rfl⟩ -
        refine awl_nil ?_
        refine aw_cond rfl (fun hc181 => ?_) (fun hc181 => ?_)
        · have h := if_bt h hc181
          refine aw_seq ?_
          refine aw_region ?_
          refine awl_val hτ rfl rfl rfl ?_
          refine grd_elim h fun hg182 h => ?_
          refine awl_need hτ (v := .d (.str (bstr (([115, 111, 117, 114, 99, 101, 32] : Str) ++ x86)))) rfl rfl (Eq.trans rfl (or_cat _ _)) hg182 ?_
          refine awl_val hτ rfl rfl rfl ?_
          refine awl_nil ?_
          refine aw_weak (weak_ofP [0, 1] (l := [(4, .d (.str (bstr (([115, 111, 117, 114, 99, 101, 32] : Str) ++ x86))))]) (objs := [.box [.d (.sl false (x180.2.code.map eIntu8)), .d (.int .i64 x180.2.at_), .d (.int .u64 x180.2.seed)], .box [.d (.cx .f32 d_.Feeder.Source.A.re d_.Feeder.Source.A.im), .d (.cx .f32 d_.Feeder.Source.B.re d_.Feeder.Source.B.im), .d (.cx .f32 d_.Feeder.Source.C.re d_.Feeder.Source.C.im), .d (.sl false (d_.Feeder.Buses.map eSBus)), .d (.sl false (d_.Taps.map eSTap)), .d (.sl false (d_.List.map eSOutage))]]) rfl (by simp) rfl (by repeat' first | exact trivial | refine ⟨?_, ?_⟩) ⟨rfl, trivial, trivial⟩) ?_
          refine aw_ret ?_
          have hr := Option.some.inj h
          subst hr
          exact ret_objs (.inr rfl) [] (objs' := [.box [.d (.sl false (x180.2.code.map eIntu8)), .d (.int .i64 x180.2.at_), .d (.int .u64 x180.2.seed)], .box [.d (.cx .f32 d_.Feeder.Source.A.re d_.Feeder.Source.A.im), .d (.cx .f32 d_.Feeder.Source.B.re d_.Feeder.Source.B.im), .d (.cx .f32 d_.Feeder.Source.C.re d_.Feeder.Source.C.im), .d (.sl false (d_.Feeder.Buses.map eSBus)), .d (.sl false (d_.Taps.map eSTap)), .d (.sl false (d_.List.map eSOutage))]]) (new := []) rfl (by simp) (by simp) rfl (by repeat' first | exact trivial | refine ⟨?_, ?_⟩) rfl rfl (by repeat' first | exact trivial | refine ⟨?_, ?_⟩) (fun h => nomatch h) ⟨rfl, rfl, rfl⟩
        · have h := if_bf h hc181
          refine aw_skip ?_
          refine aw_seq ?_
          refine aw_region ?_
          refine awl_val hτ rfl rfl rfl ?_
          refine grd_elim h fun hg183 h => ?_
          refine awl_need hτ (v := .d (.str (bstr (([108, 111, 97, 100, 32] : Str) ++ x82)))) rfl rfl (Eq.trans rfl (or_cat _ _)) hg183 ?_
          refine grd_elim h fun hg184 h => ?_
          refine awl_need hτ (v := .d (.str (bstr ((([108, 111, 97, 100, 32] : Str) ++ x82) ++ ([32] : Str))))) rfl rfl (Eq.trans rfl (or_cat _ _)) hg184 ?_
          refine awl_val hτ rfl rfl rfl ?_
          refine bnd_elim h fun x185 hx185 h => ?_
          refine awl_callP hτ false [0] rfl rfl rfl (enterOk func44 rfl rfl) rfl rfl (by simp) ⟨trivial, trivial, trivial⟩ (by repeat' first | exact trivial | refine ⟨?_, ?_⟩) (spec_l00Src_pick_ok n x180.2 (3 : Int) hx185) ?_
          rintro r0 o0 n0 ⟨rfl, rfl, rfl⟩ -
          refine bnd_elim h fun x186 hx186 h => ?_
          refine awl_callP hτ false [] rfl rfl rfl (enterOk func102 rfl rfl) rfl rfl (by simp) ⟨trivial, trivial⟩ (by repeat' first | exact trivial | refine ⟨?_, ?_⟩) (spec_l01Dec_ok n x185.1 hx186) ?_
          rintro r0 o0 n0 ⟨rfl, rfl, rfl⟩ -
          refine grd_elim h fun hg187 h => ?_
          refine awl_need hτ (v := .d (.str (bstr (((([108, 111, 97, 100, 32] : Str) ++ x82) ++ ([32] : Str)) ++ x186)))) rfl rfl (Eq.trans rfl (or_cat _ _)) hg187 ?_
          refine grd_elim h fun hg188 h => ?_
          refine awl_need hτ (v := .d (.str (bstr ((((([108, 111, 97, 100, 32] : Str) ++ x82) ++ ([32] : Str)) ++ x186) ++ ([32] : Str))))) rfl rfl (Eq.trans rfl (or_cat _ _)) hg188 ?_
          refine awl_weak (weak_ofP [0, 1] (l := [(7, .d (.str (bstr x86))), (77, .d (.str (bstr ((((([108, 111, 97, 100, 32] : Str) ++ x82) ++ ([32] : Str)) ++ x186) ++ ([32] : Str)))))]) (objs := [.box [.d (.sl false (x185.2.code.map eIntu8)), .d (.int .i64 x185.2.at_), .d (.int .u64 x185.2.seed)], .box [.d (.cx .f32 d_.Feeder.Source.A.re d_.Feeder.Source.A.im), .d (.cx .f32 d_.Feeder.Source.B.re d_.Feeder.Source.B.im), .d (.cx .f32 d_.Feeder.Source.C.re d_.Feeder.Source.C.im), .d (.sl false (d_.Feeder.Buses.map eSBus)), .d (.sl false (d_.Taps.map eSTap)), .d (.sl false (d_.List.map eSOutage))]]) rfl (by simp) rfl (by repeat' first | exact trivial | refine ⟨?_, ?_⟩) ⟨rfl, trivial, rfl, trivial, trivial⟩) ?_
          refine awl_val hτ rfl rfl rfl ?_
          refine grd_elim h fun hg189 h => ?_
          refine awl_need hτ (v := .d (.str (bstr (((((([108, 111, 97, 100, 32] : Str) ++ x82) ++ ([32] : Str)) ++ x186) ++ ([32] : Str)) ++ x86)))) rfl rfl (Eq.trans rfl (or_cat _ _)) hg189 ?_
          refine awl_val hτ rfl rfl rfl ?_
          refine awl_nil ?_
          refine aw_weak (weak_ofP [0, 1] (l := [(4, .d (.str (bstr (((((([108, 111, 97, 100, 32] : Str) ++ x82) ++ ([32] : Str)) ++ x186) ++ ([32] : Str)) ++ x86))))]) (objs := [.box [.d (.sl false (x185.2.code.map eIntu8)), .d (.int .i64 x185.2.at_), .d (.int .u64 x185.2.seed)], .box [.d (.cx .f32 d_.Feeder.Source.A.re d_.Feeder.Source.A.im), .d (.cx .f32 d_.Feeder.Source.B.re d_.Feeder.Source.B.im), .d (.cx .f32 d_.Feeder.Source.C.re d_.Feeder.Source.C.im), .d (.sl false (d_.Feeder.Buses.map eSBus)), .d (.sl false (d_.Taps.map eSTap)), .d (.sl false (d_.List.map eSOutage))]]) rfl (by simp) rfl (by repeat' first | exact trivial | refine ⟨?_, ?_⟩) ⟨rfl, trivial, trivial⟩) ?_
          refine aw_ret ?_
          have hr := Option.some.inj h
          subst hr
          exact ret_objs (.inr rfl) [] (objs' := [.box [.d (.sl false (x185.2.code.map eIntu8)), .d (.int .i64 x185.2.at_), .d (.int .u64 x185.2.seed)], .box [.d (.cx .f32 d_.Feeder.Source.A.re d_.Feeder.Source.A.im), .d (.cx .f32 d_.Feeder.Source.B.re d_.Feeder.Source.B.im), .d (.cx .f32 d_.Feeder.Source.C.re d_.Feeder.Source.C.im), .d (.sl false (d_.Feeder.Buses.map eSBus)), .d (.sl false (d_.Taps.map eSTap)), .d (.sl false (d_.List.map eSOutage))]]) (new := []) rfl (by simp) (by simp) rfl (by repeat' first | exact trivial | refine ⟨?_, ?_⟩) rfl rfl (by repeat' first | exact trivial | refine ⟨?_, ?_⟩) (fun h => nomatch h) ⟨rfl, rfl, rfl⟩
      · have h := if_f h hc177
        refine aw_seq ?_
        refine aw_region ?_
        refine awl_val hτ (v := .d (.bool (decide (x158.1 = (3 : Int))))) rfl rfl (or_ieq _ _) ?_
        refine awl_val hτ rfl rfl rfl ?_
        refine awl_nil ?_
        refine aw_cond rfl (fun hc190 => ?_) (fun hc190 => ?_)
        · have h := if_t h hc190
          refine aw_seq ?_
          refine aw_seq ?_
          refine aw_region ?_
          refine awl_val hτ rfl rfl rfl ?_
          refine bnd_elim h fun x193 hx193 h => ?_
          refine awl_callP hτ false [0] rfl rfl rfl (enterOk func56 rfl rfl) rfl rfl (by simp) ⟨trivial, trivial, trivial⟩ (by repeat' first | exact trivial | refine ⟨?_, ?_⟩) (spec_l00Src_one_ok n x158.2 (3 : Int) hx193) ?_
          rintro r0 o0 n0 ⟨rfl, rfl, rfl⟩ -
          refine awl_nil ?_
          refine aw_weak (weak_ofP [0, 1] (l := [(0, .ptr 0 0), (5, .d (.str (bstr x82))), (83, .d (.bool x193.1))]) (objs := [.box [.d (.sl false (x193.2.code.map eIntu8)), .d (.int .i64 x193.2.at_), .d (.int .u64 x193.2.seed)], .box [.d (.cx .f32 d_.Feeder.Source.A.re d_.Feeder.Source.A.im), .d (.cx .f32 d_.Feeder.Source.B.re d_.Feeder.Source.B.im), .d (.cx .f32 d_.Feeder.Source.C.re d_.Feeder.Source.C.im), .d (.sl false (d_.Feeder.Buses.map eSBus)), .d (.sl false (d_.Taps.map eSTap)), .d (.sl false (d_.List.map eSOutage))]]) rfl (by simp) rfl (by repeat' first | exact trivial | refine ⟨?_, ?_⟩) ⟨rfl, trivial, rfl, trivial, rfl, trivial, trivial⟩) ?_
          refine aw_cond rfl (fun hc194 => ?_) (fun hc194 => ?_)
          · have h := if_bt h hc194
            refine aw_seq ?_
            refine aw_region ?_
            refine awl_val hτ rfl rfl rfl ?_
            refine grd_elim h fun hg195 h => ?_
            refine awl_need hτ (v := .d (.str (bstr (([99, 117, 116, 32] : Str) ++ x82)))) rfl rfl (Eq.trans rfl (or_cat _ _)) hg195 ?_
            refine awl_val hτ rfl rfl rfl ?_
            refine awl_nil ?_
            refine aw_weak (weak_ofP [0, 1] (l := [(4, .d (.str (bstr (([99, 117, 116, 32] : Str) ++ x82))))]) (objs := [.box [.d (.sl false (x193.2.code.map eIntu8)), .d (.int .i64 x193.2.at_), .d (.int .u64 x193.2.seed)], .box [.d (.cx .f32 d_.Feeder.Source.A.re d_.Feeder.Source.A.im), .d (.cx .f32 d_.Feeder.Source.B.re d_.Feeder.Source.B.im), .d (.cx .f32 d_.Feeder.Source.C.re d_.Feeder.Source.C.im), .d (.sl false (d_.Feeder.Buses.map eSBus)), .d (.sl false (d_.Taps.map eSTap)), .d (.sl false (d_.List.map eSOutage))]]) rfl (by simp) rfl (by repeat' first | exact trivial | refine ⟨?_, ?_⟩) ⟨rfl, trivial, trivial⟩) ?_
            refine aw_ret ?_
            have hr := Option.some.inj h
            subst hr
            exact ret_objs (.inr rfl) [] (objs' := [.box [.d (.sl false (x193.2.code.map eIntu8)), .d (.int .i64 x193.2.at_), .d (.int .u64 x193.2.seed)], .box [.d (.cx .f32 d_.Feeder.Source.A.re d_.Feeder.Source.A.im), .d (.cx .f32 d_.Feeder.Source.B.re d_.Feeder.Source.B.im), .d (.cx .f32 d_.Feeder.Source.C.re d_.Feeder.Source.C.im), .d (.sl false (d_.Feeder.Buses.map eSBus)), .d (.sl false (d_.Taps.map eSTap)), .d (.sl false (d_.List.map eSOutage))]]) (new := []) rfl (by simp) (by simp) rfl (by repeat' first | exact trivial | refine ⟨?_, ?_⟩) rfl rfl (by repeat' first | exact trivial | refine ⟨?_, ?_⟩) (fun h => nomatch h) ⟨rfl, rfl, rfl⟩
          · have h := if_bf h hc194
            refine aw_skip ?_
            refine aw_seq ?_
            refine aw_region ?_
            refine awl_val hτ rfl rfl rfl ?_
            refine grd_elim h fun hg196 h => ?_
            refine awl_need hτ (v := .d (.str (bstr (([98, 97, 110, 107, 32] : Str) ++ x82)))) rfl rfl (Eq.trans rfl (or_cat _ _)) hg196 ?_
            refine grd_elim h fun hg197 h => ?_
            refine awl_need hτ (v := .d (.str (bstr ((([98, 97, 110, 107, 32] : Str) ++ x82) ++ ([32] : Str))))) rfl rfl (Eq.trans rfl (or_cat _ _)) hg197 ?_
            refine awl_val hτ rfl rfl rfl ?_
            refine bnd_elim h fun x198 hx198 h => ?_
            refine awl_callP hτ false [0] rfl rfl rfl (enterOk func44 rfl rfl) rfl rfl (by simp) ⟨trivial, trivial, trivial⟩ (by repeat' first | exact trivial | refine ⟨?_, ?_⟩) (spec_l00Src_pick_ok n x193.2 (16 : Int) hx198) ?_
            rintro r0 o0 n0 ⟨rfl, rfl, rfl⟩ -
            refine awl_val hτ rfl rfl rfl ?_
            refine awl_val hτ rfl rfl rfl ?_
            refine awl_val hτ rfl rfl rfl ?_
            refine bnd_elim h fun x199 hx199 h => ?_
            refine awl_callP hτ false [] rfl rfl rfl (enterOk func107 rfl rfl) rfl rfl (by simp) ⟨trivial, trivial⟩ (by repeat' first | exact trivial | refine ⟨?_, ?_⟩) (spec_l01Hex_ok n (farith .quo .f32 (FloatKind.nearest .f32 (w64 ((1 : Int) + x198.1))) (1115684864 : Nat)) hx199) ?_
            rintro r0 o0 n0 ⟨rfl, rfl, rfl⟩ -
            refine grd_elim h fun hg200 h => ?_
            refine awl_need hτ (v := .d (.str (bstr (((([98, 97, 110, 107, 32] : Str) ++ x82) ++ ([32] : Str)) ++ x199)))) rfl rfl (Eq.trans rfl (or_cat _ _)) hg200 ?_
            refine awl_val hτ rfl rfl rfl ?_
            refine awl_nil ?_
            refine aw_weak (weak_ofP [0, 1] (l := [(4, .d (.str (bstr (((([98, 97, 110, 107, 32] : Str) ++ x82) ++ ([32] : Str)) ++ x199))))]) (objs := [.box [.d (.sl false (x198.2.code.map eIntu8)), .d (.int .i64 x198.2.at_), .d (.int .u64 x198.2.seed)], .box [.d (.cx .f32 d_.Feeder.Source.A.re d_.Feeder.Source.A.im), .d (.cx .f32 d_.Feeder.Source.B.re d_.Feeder.Source.B.im), .d (.cx .f32 d_.Feeder.Source.C.re d_.Feeder.Source.C.im), .d (.sl false (d_.Feeder.Buses.map eSBus)), .d (.sl false (d_.Taps.map eSTap)), .d (.sl false (d_.List.map eSOutage))]]) rfl (by simp) rfl (by repeat' first | exact trivial | refine ⟨?_, ?_⟩) ⟨rfl, trivial, trivial⟩) ?_
            refine aw_ret ?_
            have hr := Option.some.inj h
            subst hr
            exact ret_objs (.inr rfl) [] (objs' := [.box [.d (.sl false (x198.2.code.map eIntu8)), .d (.int .i64 x198.2.at_), .d (.int .u64 x198.2.seed)], .box [.d (.cx .f32 d_.Feeder.Source.A.re d_.Feeder.Source.A.im), .d (.cx .f32 d_.Feeder.Source.B.re d_.Feeder.Source.B.im), .d (.cx .f32 d_.Feeder.Source.C.re d_.Feeder.Source.C.im), .d (.sl false (d_.Feeder.Buses.map eSBus)), .d (.sl false (d_.Taps.map eSTap)), .d (.sl false (d_.List.map eSOutage))]]) (new := []) rfl (by simp) (by simp) rfl (by repeat' first | exact trivial | refine ⟨?_, ?_⟩) rfl rfl (by repeat' first | exact trivial | refine ⟨?_, ?_⟩) (fun h => nomatch h) ⟨rfl, rfl, rfl⟩
        · have h := if_f h hc190
          refine aw_seq ?_
          refine aw_region ?_
          refine awl_val hτ (v := .d (.bool (decide (x158.1 = (4 : Int))))) rfl rfl (or_ieq _ _) ?_
          refine awl_val hτ rfl rfl rfl ?_
          refine awl_nil ?_
          refine aw_weak (weak_ofP [0, 1] (l := [(0, .ptr 0 0), (5, .d (.str (bstr x82))), (6, .d (.str (bstr x84))), (31, .d (.int .i64 x158.1)), (96, .d (.bool (decide (x158.1 = (4 : Int)))))]) (objs := [.box [.d (.sl false (x158.2.code.map eIntu8)), .d (.int .i64 x158.2.at_), .d (.int .u64 x158.2.seed)], .box [.d (.cx .f32 d_.Feeder.Source.A.re d_.Feeder.Source.A.im), .d (.cx .f32 d_.Feeder.Source.B.re d_.Feeder.Source.B.im), .d (.cx .f32 d_.Feeder.Source.C.re d_.Feeder.Source.C.im), .d (.sl false (d_.Feeder.Buses.map eSBus)), .d (.sl false (d_.Taps.map eSTap)), .d (.sl false (d_.List.map eSOutage))]]) rfl (by simp) rfl (by repeat' first | exact trivial | refine ⟨?_, ?_⟩) ⟨rfl, trivial, rfl, trivial, rfl, trivial, rfl, trivial, rfl, trivial, trivial⟩) ?_
          refine aw_cond rfl (fun hc201 => ?_) (fun hc201 => ?_)
          · have h := if_t h hc201
            refine aw_seq ?_
            refine aw_region ?_
            refine awl_val hτ rfl rfl rfl ?_
            refine bnd_elim h fun x202 hx202 h => ?_
            refine awl_callP hτ false [0] rfl rfl rfl (enterOk func44 rfl rfl) rfl rfl (by simp) ⟨trivial, trivial, trivial⟩ (by repeat' first | exact trivial | refine ⟨?_, ?_⟩) (spec_l00Src_pick_ok n x158.2 (7 : Int) hx202) ?_
            rintro r0 o0 n0 ⟨rfl, rfl, rfl⟩ -
            refine awl_val hτ rfl rfl rfl ?_
            refine bnd_elim h fun x203 hx203 h => ?_
            refine awl_callP hτ false [] rfl rfl rfl (enterOk func102 rfl rfl) rfl rfl (by simp) ⟨trivial, trivial⟩ (by repeat' first | exact trivial | refine ⟨?_, ?_⟩) (spec_l01Dec_ok n (w64 (x202.1 - (3 : Int))) hx203) ?_
            rintro r0 o0 n0 ⟨rfl, rfl, rfl⟩ -
            refine awl_val hτ rfl rfl rfl ?_
            refine awl_nil ?_
            refine aw_seq ?_
            refine aw_region ?_
            refine awl_val hτ rfl rfl rfl ?_
            refine grd_elim h fun hg204 h => ?_
            refine awl_need hτ (v := .d (.str (bstr (([116, 97, 112, 32] : Str) ++ x82)))) rfl rfl (Eq.trans rfl (or_cat _ _)) hg204 ?_
            refine grd_elim h fun hg205 h => ?_
            refine awl_need hτ (v := .d (.str (bstr ((([116, 97, 112, 32] : Str) ++ x82) ++ ([32] : Str))))) rfl rfl (Eq.trans rfl (or_cat _ _)) hg205 ?_
            refine awl_val hτ rfl rfl rfl ?_
            refine grd_elim h fun hg206 h => ?_
            refine awl_need hτ (v := .d (.str (bstr (((([116, 97, 112, 32] : Str) ++ x82) ++ ([32] : Str)) ++ x203)))) rfl rfl (Eq.trans rfl (or_cat _ _)) hg206 ?_
            refine grd_elim h fun hg207 h => ?_
            refine awl_need hτ (v := .d (.str (bstr ((((([116, 97, 112, 32] : Str) ++ x82) ++ ([32] : Str)) ++ x203) ++ ([32, 48, 32] : Str))))) rfl rfl (Eq.trans rfl (or_cat _ _)) hg207 ?_
            refine awl_val hτ rfl rfl rfl ?_
            refine awl_weak (weak_ofP [0, 1] (l := [(0, .ptr 0 0), (107, .d (.str (bstr ((((([116, 97, 112, 32] : Str) ++ x82) ++ ([32] : Str)) ++ x203) ++ ([32, 48, 32] : Str))))), (108, .d (.str (bstr x84)))]) (objs := [.box [.d (.sl false (x202.2.code.map eIntu8)), .d (.int .i64 x202.2.at_), .d (.int .u64 x202.2.seed)], .box [.d (.cx .f32 d_.Feeder.Source.A.re d_.Feeder.Source.A.im), .d (.cx .f32 d_.Feeder.Source.B.re d_.Feeder.Source.B.im), .d (.cx .f32 d_.Feeder.Source.C.re d_.Feeder.Source.C.im), .d (.sl false (d_.Feeder.Buses.map eSBus)), .d (.sl false (d_.Taps.map eSTap)), .d (.sl false (d_.List.map eSOutage))]]) rfl (by simp) rfl (by repeat' first | exact trivial | refine ⟨?_, ?_⟩) ⟨rfl, trivial, rfl, trivial, rfl, trivial, trivial⟩) ?_
            refine grd_elim h fun hg208 h => ?_
            refine awl_need hτ (v := .d (.str (bstr (((((([116, 97, 112, 32] : Str) ++ x82) ++ ([32] : Str)) ++ x203) ++ ([32, 48, 32] : Str)) ++ x84)))) rfl rfl (Eq.trans rfl (or_cat _ _)) hg208 ?_
            refine grd_elim h fun hg209 h => ?_
            refine awl_need hτ (v := .d (.str (bstr ((((((([116, 97, 112, 32] : Str) ++ x82) ++ ([32] : Str)) ++ x203) ++ ([32, 48, 32] : Str)) ++ x84) ++ ([32] : Str))))) rfl rfl (Eq.trans rfl (or_cat _ _)) hg209 ?_
            refine awl_val hτ rfl rfl rfl ?_
            refine bnd_elim h fun x210 hx210 h => ?_
            refine awl_callP hτ false [0] rfl rfl rfl (enterOk func44 rfl rfl) rfl rfl (by simp) ⟨trivial, trivial, trivial⟩ (by repeat' first | exact trivial | refine ⟨?_, ?_⟩) (spec_l00Src_pick_ok n x202.2 (5 : Int) hx210) ?_
            rintro r0 o0 n0 ⟨rfl, rfl, rfl⟩ -
            refine awl_val hτ rfl rfl rfl ?_
            refine awl_val hτ rfl rfl rfl ?_
            refine bnd_elim h fun x211 hx211 h => ?_
            refine awl_callP hτ false [] rfl rfl rfl (enterOk func107 rfl rfl) rfl rfl (by simp) ⟨trivial, trivial⟩ (by repeat' first | exact trivial | refine ⟨?_, ?_⟩) (spec_l01Hex_ok n (farith .quo .f32 (FloatKind.nearest .f32 x210.1) (1115684864 : Nat)) hx211) ?_
            rintro r0 o0 n0 ⟨rfl, rfl, rfl⟩ -
            refine grd_elim h fun hg212 h => ?_
            refine awl_need hτ (v := .d (.str (bstr (((((((([116, 97, 112, 32] : Str) ++ x82) ++ ([32] : Str)) ++ x203) ++ ([32, 48, 32] : Str)) ++ x84) ++ ([32] : Str)) ++ x211)))) rfl rfl (Eq.trans rfl (or_cat _ _)) hg212 ?_
            refine awl_val hτ rfl rfl rfl ?_
            refine awl_nil ?_
            refine aw_weak (weak_ofP [0, 1] (l := [(4, .d (.str (bstr (((((((([116, 97, 112, 32] : Str) ++ x82) ++ ([32] : Str)) ++ x203) ++ ([32, 48, 32] : Str)) ++ x84) ++ ([32] : Str)) ++ x211))))]) (objs := [.box [.d (.sl false (x210.2.code.map eIntu8)), .d (.int .i64 x210.2.at_), .d (.int .u64 x210.2.seed)], .box [.d (.cx .f32 d_.Feeder.Source.A.re d_.Feeder.Source.A.im), .d (.cx .f32 d_.Feeder.Source.B.re d_.Feeder.Source.B.im), .d (.cx .f32 d_.Feeder.Source.C.re d_.Feeder.Source.C.im), .d (.sl false (d_.Feeder.Buses.map eSBus)), .d (.sl false (d_.Taps.map eSTap)), .d (.sl false (d_.List.map eSOutage))]]) rfl (by simp) rfl (by repeat' first | exact trivial | refine ⟨?_, ?_⟩) ⟨rfl, trivial, trivial⟩) ?_
            refine aw_ret ?_
            have hr := Option.some.inj h
            subst hr
            exact ret_objs (.inr rfl) [] (objs' := [.box [.d (.sl false (x210.2.code.map eIntu8)), .d (.int .i64 x210.2.at_), .d (.int .u64 x210.2.seed)], .box [.d (.cx .f32 d_.Feeder.Source.A.re d_.Feeder.Source.A.im), .d (.cx .f32 d_.Feeder.Source.B.re d_.Feeder.Source.B.im), .d (.cx .f32 d_.Feeder.Source.C.re d_.Feeder.Source.C.im), .d (.sl false (d_.Feeder.Buses.map eSBus)), .d (.sl false (d_.Taps.map eSTap)), .d (.sl false (d_.List.map eSOutage))]]) (new := []) rfl (by simp) (by simp) rfl (by repeat' first | exact trivial | refine ⟨?_, ?_⟩) rfl rfl (by repeat' first | exact trivial | refine ⟨?_, ?_⟩) (fun h => nomatch h) ⟨rfl, rfl, rfl⟩
          · have h := if_f h hc201
            refine aw_seq ?_
            refine aw_region ?_
            refine awl_val hτ (v := .d (.bool (decide (x158.1 = (5 : Int))))) rfl rfl (or_ieq _ _) ?_
            refine awl_val hτ rfl rfl rfl ?_
            refine awl_nil ?_
            refine aw_cond rfl (fun hc213 => ?_) (fun hc213 => ?_)
            · have h := if_t h hc213
              refine aw_seq ?_
              refine aw_region ?_
              refine awl_val hτ rfl rfl rfl ?_
              refine awl_valH hτ rfl rfl rfl ?_
              refine awl_weak (weak_ofP [0, 1] (l := [(0, .ptr 0 0), (6, .d (.str (bstr x84))), (119, .ptr 0 0), (120, .d (.sl false ([([97, 117, 116, 111] : Str), ([98, 97, 110, 100] : Str)].map eStr)))]) (objs := [.box [.d (.sl false (x158.2.code.map eIntu8)), .d (.int .i64 x158.2.at_), .d (.int .u64 x158.2.seed)], .box [.d (.cx .f32 d_.Feeder.Source.A.re d_.Feeder.Source.A.im), .d (.cx .f32 d_.Feeder.Source.B.re d_.Feeder.Source.B.im), .d (.cx .f32 d_.Feeder.Source.C.re d_.Feeder.Source.C.im), .d (.sl false (d_.Feeder.Buses.map eSBus)), .d (.sl false (d_.Taps.map eSTap)), .d (.sl false (d_.List.map eSOutage))]]) rfl (by simp) rfl (by repeat' first | exact trivial | refine ⟨?_, ?_⟩) ⟨rfl, trivial, rfl, trivial, rfl, trivial, (exV_view (f := eStr) [([97, 117, 116, 111] : Str), ([98, 97, 110, 100] : Str)] rfl rfl rfl), (exVP_view (f := eStr) [([97, 117, 116, 111] : Str), ([98, 97, 110, 100] : Str)] rfl rfl rfl), trivial⟩) ?_
              refine bnd_elim h fun x214 hx214 h => ?_
              refine awl_callP hτ false [0] rfl rfl rfl (enterOk func105 rfl rfl) rfl rfl (by simp) ⟨trivial, trivial, trivial⟩ (by repeat' first | exact trivial | refine ⟨?_, ?_⟩) (spec_l00Src_text_ok n x158.2 [([97, 117, 116, 111] : Str), ([98, 97, 110, 100] : Str)] hx214) ?_
              rintro r0 o0 n0 ⟨rfl, rfl, rfl⟩ -
              refine awl_val hτ rfl rfl rfl ?_
              refine awl_nil ?_
              refine aw_seq ?_
              refine aw_region ?_
              refine awl_val hτ rfl rfl rfl ?_
              refine bnd_elim h fun x215 hx215 h => ?_
              refine awl_callP hτ false [0] rfl rfl rfl (enterOk func44 rfl rfl) rfl rfl (by simp) ⟨trivial, trivial, trivial⟩ (by repeat' first | exact trivial | refine ⟨?_, ?_⟩) (spec_l00Src_pick_ok n x214.2 (12 : Int) hx215) ?_
              rintro r0 o0 n0 ⟨rfl, rfl, rfl⟩ -
              refine awl_val hτ rfl rfl rfl ?_
              refine awl_val hτ rfl rfl rfl ?_
              refine bnd_elim h fun x216 hx216 h => ?_
              refine awl_callP hτ false [] rfl rfl rfl (enterOk func107 rfl rfl) rfl rfl (by simp) ⟨trivial, trivial⟩ (by repeat' first | exact trivial | refine ⟨?_, ?_⟩) (spec_l01Hex_ok n (FloatKind.nearest .f32 (w64 ((6 : Int) + x215.1))) hx216) ?_
              rintro r0 o0 n0 ⟨rfl, rfl, rfl⟩ -
              refine awl_val hτ rfl rfl rfl ?_
              refine awl_nil ?_
              refine aw_seq ?_
              refine aw_weak (weak_ofP [0, 1] (l := [(0, .ptr 0 0), (6, .d (.str (bstr x84))), (10, .d (.str (bstr x214.1))), (11, .d (.str (bstr x216)))]) (objs := [.box [.d (.sl false (x215.2.code.map eIntu8)), .d (.int .i64 x215.2.at_), .d (.int .u64 x215.2.seed)], .box [.d (.cx .f32 d_.Feeder.Source.A.re d_.Feeder.Source.A.im), .d (.cx .f32 d_.Feeder.Source.B.re d_.Feeder.Source.B.im), .d (.cx .f32 d_.Feeder.Source.C.re d_.Feeder.Source.C.im), .d (.sl false (d_.Feeder.Buses.map eSBus)), .d (.sl false (d_.Taps.map eSTap)), .d (.sl false (d_.List.map eSOutage))]]) rfl (by simp) rfl (by repeat' first | exact trivial | refine ⟨?_, ?_⟩) ⟨rfl, trivial, rfl, trivial, rfl, trivial, rfl, trivial, trivial⟩) ?_
              refine aw_region ?_
              refine awl_val hτ rfl rfl rfl ?_
              refine grd_elim h fun hg217 h => ?_
              refine awl_need hτ (v := .d (.str (bstr (x214.1 ++ ([32] : Str))))) rfl rfl (Eq.trans rfl (or_cat _ _)) hg217 ?_
              refine awl_val hτ rfl rfl rfl ?_
              refine grd_elim h fun hg218 h => ?_
              refine awl_need hτ (v := .d (.str (bstr ((x214.1 ++ ([32] : Str)) ++ x216)))) rfl rfl (Eq.trans rfl (or_cat _ _)) hg218 ?_
              refine grd_elim h fun hg219 h => ?_
              refine awl_need hτ (v := .d (.str (bstr (((x214.1 ++ ([32] : Str)) ++ x216) ++ ([32] : Str))))) rfl rfl (Eq.trans rfl (or_cat _ _)) hg219 ?_
              refine awl_val hτ rfl rfl rfl ?_
              refine bnd_elim h fun x220 hx220 h => ?_
              refine awl_callP hτ false [0] rfl rfl rfl (enterOk func44 rfl rfl) rfl rfl (by simp) ⟨trivial, trivial, trivial⟩ (by repeat' first | exact trivial | refine ⟨?_, ?_⟩) (spec_l00Src_pick_ok n x215.2 (9 : Int) hx220) ?_
              rintro r0 o0 n0 ⟨rfl, rfl, rfl⟩ -
              refine awl_val hτ rfl rfl rfl ?_
              refine awl_val hτ rfl rfl rfl ?_
              refine bnd_elim h fun x221 hx221 h => ?_
              refine awl_callP hτ false [] rfl rfl rfl (enterOk func107 rfl rfl) rfl rfl (by simp) ⟨trivial, trivial⟩ (by repeat' first | exact trivial | refine ⟨?_, ?_⟩) (spec_l01Hex_ok n (farith .quo .f32 (FloatKind.nearest .f32 x220.1) (1090519040 : Nat)) hx221) ?_
              rintro r0 o0 n0 ⟨rfl, rfl, rfl⟩ -
              refine grd_elim h fun hg222 h => ?_
              refine awl_need hτ (v := .d (.str (bstr ((((x214.1 ++ ([32] : Str)) ++ x216) ++ ([32] : Str)) ++ x221)))) rfl rfl (Eq.trans rfl (or_cat _ _)) hg222 ?_
              refine grd_elim h fun hg223 h => ?_
              refine awl_need hτ (v := .d (.str (bstr (((((x214.1 ++ ([32] : Str)) ++ x216) ++ ([32] : Str)) ++ x221) ++ ([32] : Str))))) rfl rfl (Eq.trans rfl (or_cat _ _)) hg223 ?_
              refine awl_weak (weak_ofP [0, 1] (l := [(6, .d (.str (bstr x84))), (138, .d (.str (bstr (((((x214.1 ++ ([32] : Str)) ++ x216) ++ ([32] : Str)) ++ x221) ++ ([32] : Str)))))]) (objs := [.box [.d (.sl false (x220.2.code.map eIntu8)), .d (.int .i64 x220.2.at_), .d (.int .u64 x220.2.seed)], .box [.d (.cx .f32 d_.Feeder.Source.A.re d_.Feeder.Source.A.im), .d (.cx .f32 d_.Feeder.Source.B.re d_.Feeder.Source.B.im), .d (.cx .f32 d_.Feeder.Source.C.re d_.Feeder.Source.C.im), .d (.sl false (d_.Feeder.Buses.map eSBus)), .d (.sl false (d_.Taps.map eSTap)), .d (.sl false (d_.List.map eSOutage))]]) rfl (by simp) rfl (by repeat' first | exact trivial | refine ⟨?_, ?_⟩) ⟨rfl, trivial, rfl, trivial, trivial⟩) ?_
              refine awl_val hτ rfl rfl rfl ?_
              refine grd_elim h fun hg224 h => ?_
              refine awl_need hτ (v := .d (.str (bstr ((((((x214.1 ++ ([32] : Str)) ++ x216) ++ ([32] : Str)) ++ x221) ++ ([32] : Str)) ++ x84)))) rfl rfl (Eq.trans rfl (or_cat _ _)) hg224 ?_
              refine awl_val hτ rfl rfl rfl ?_
              refine awl_nil ?_
              refine aw_weak (weak_ofP [0, 1] (l := [(4, .d (.str (bstr ((((((x214.1 ++ ([32] : Str)) ++ x216) ++ ([32] : Str)) ++ x221) ++ ([32] : Str)) ++ x84))))]) (objs := [.box [.d (.sl false (x220.2.code.map eIntu8)), .d (.int .i64 x220.2.at_), .d (.int .u64 x220.2.seed)], .box [.d (.cx .f32 d_.Feeder.Source.A.re d_.Feeder.Source.A.im), .d (.cx .f32 d_.Feeder.Source.B.re d_.Feeder.Source.B.im), .d (.cx .f32 d_.Feeder.Source.C.re d_.Feeder.Source.C.im), .d (.sl false (d_.Feeder.Buses.map eSBus)), .d (.sl false (d_.Taps.map eSTap)), .d (.sl false (d_.List.map eSOutage))]]) rfl (by simp) rfl (by repeat' first | exact trivial | refine ⟨?_, ?_⟩) ⟨rfl, trivial, trivial⟩) ?_
              refine aw_ret ?_
              have hr := Option.some.inj h
              subst hr
              exact ret_objs (.inr rfl) [] (objs' := [.box [.d (.sl false (x220.2.code.map eIntu8)), .d (.int .i64 x220.2.at_), .d (.int .u64 x220.2.seed)], .box [.d (.cx .f32 d_.Feeder.Source.A.re d_.Feeder.Source.A.im), .d (.cx .f32 d_.Feeder.Source.B.re d_.Feeder.Source.B.im), .d (.cx .f32 d_.Feeder.Source.C.re d_.Feeder.Source.C.im), .d (.sl false (d_.Feeder.Buses.map eSBus)), .d (.sl false (d_.Taps.map eSTap)), .d (.sl false (d_.List.map eSOutage))]]) (new := []) rfl (by simp) (by simp) rfl (by repeat' first | exact trivial | refine ⟨?_, ?_⟩) rfl rfl (by repeat' first | exact trivial | refine ⟨?_, ?_⟩) (fun h => nomatch h) ⟨rfl, rfl, rfl⟩
            · have h := if_f h hc213
              refine aw_seq ?_
              refine aw_region ?_
              refine awl_val hτ (v := .d (.bool (decide (x158.1 = (6 : Int))))) rfl rfl (or_ieq _ _) ?_
              refine awl_val hτ rfl rfl rfl ?_
              refine awl_nil ?_
              refine aw_cond rfl (fun hc225 => ?_) (fun hc225 => ?_)
              · have h := if_t h hc225
                refine aw_seq ?_
                refine aw_seq ?_
                refine aw_region ?_
                refine awl_val hτ rfl rfl rfl ?_
                refine bnd_elim h fun x228 hx228 h => ?_
                refine awl_callP hτ false [0] rfl rfl rfl (enterOk func56 rfl rfl) rfl rfl (by simp) ⟨trivial, trivial, trivial⟩ (by repeat' first | exact trivial | refine ⟨?_, ?_⟩) (spec_l00Src_one_ok n x158.2 (4 : Int) hx228) ?_
                rintro r0 o0 n0 ⟨rfl, rfl, rfl⟩ -
                refine awl_nil ?_
                refine aw_weak (weak_ofP [0, 1] (l := [(0, .ptr 0 0), (5, .d (.str (bstr x82))), (6, .d (.str (bstr x84))), (144, .d (.bool x228.1))]) (objs := [.box [.d (.sl false (x228.2.code.map eIntu8)), .d (.int .i64 x228.2.at_), .d (.int .u64 x228.2.seed)], .box [.d (.cx .f32 d_.Feeder.Source.A.re d_.Feeder.Source.A.im), .d (.cx .f32 d_.Feeder.Source.B.re d_.Feeder.Source.B.im), .d (.cx .f32 d_.Feeder.Source.C.re d_.Feeder.Source.C.im), .d (.sl false (d_.Feeder.Buses.map eSBus)), .d (.sl false (d_.Taps.map eSTap)), .d (.sl false (d_.List.map eSOutage))]]) rfl (by simp) rfl (by repeat' first | exact trivial | refine ⟨?_, ?_⟩) ⟨rfl, trivial, rfl, trivial, rfl, trivial, rfl, trivial, trivial⟩) ?_
                refine aw_cond rfl (fun hc229 => ?_) (fun hc229 => ?_)
                · have h := if_bt h hc229
                  refine aw_seq ?_
                  refine aw_region ?_
                  refine awl_val hτ rfl rfl rfl ?_
                  refine grd_elim h fun hg230 h => ?_
                  refine awl_need hτ (v := .d (.str (bstr (([108, 111, 119, 32] : Str) ++ x84)))) rfl rfl (Eq.trans rfl (or_cat _ _)) hg230 ?_
                  refine awl_val hτ rfl rfl rfl ?_
                  refine awl_nil ?_
                  refine aw_weak (weak_ofP [0, 1] (l := [(4, .d (.str (bstr (([108, 111, 119, 32] : Str) ++ x84))))]) (objs := [.box [.d (.sl false (x228.2.code.map eIntu8)), .d (.int .i64 x228.2.at_), .d (.int .u64 x228.2.seed)], .box [.d (.cx .f32 d_.Feeder.Source.A.re d_.Feeder.Source.A.im), .d (.cx .f32 d_.Feeder.Source.B.re d_.Feeder.Source.B.im), .d (.cx .f32 d_.Feeder.Source.C.re d_.Feeder.Source.C.im), .d (.sl false (d_.Feeder.Buses.map eSBus)), .d (.sl false (d_.Taps.map eSTap)), .d (.sl false (d_.List.map eSOutage))]]) rfl (by simp) rfl (by repeat' first | exact trivial | refine ⟨?_, ?_⟩) ⟨rfl, trivial, trivial⟩) ?_
                  refine aw_ret ?_
                  have hr := Option.some.inj h
                  subst hr
                  exact ret_objs (.inr rfl) [] (objs' := [.box [.d (.sl false (x228.2.code.map eIntu8)), .d (.int .i64 x228.2.at_), .d (.int .u64 x228.2.seed)], .box [.d (.cx .f32 d_.Feeder.Source.A.re d_.Feeder.Source.A.im), .d (.cx .f32 d_.Feeder.Source.B.re d_.Feeder.Source.B.im), .d (.cx .f32 d_.Feeder.Source.C.re d_.Feeder.Source.C.im), .d (.sl false (d_.Feeder.Buses.map eSBus)), .d (.sl false (d_.Taps.map eSTap)), .d (.sl false (d_.List.map eSOutage))]]) (new := []) rfl (by simp) (by simp) rfl (by repeat' first | exact trivial | refine ⟨?_, ?_⟩) rfl rfl (by repeat' first | exact trivial | refine ⟨?_, ?_⟩) (fun h => nomatch h) ⟨rfl, rfl, rfl⟩
                · have h := if_bf h hc229
                  refine aw_skip ?_
                  refine aw_seq ?_
                  refine aw_region ?_
                  refine awl_val hτ rfl rfl rfl ?_
                  refine awl_valH hτ rfl rfl rfl ?_
                  refine awl_weak (weak_ofP [0, 1] (l := [(5, .d (.str (bstr x82))), (6, .d (.str (bstr x84))), (147, .ptr 0 0), (148, .d (.sl false ([([97, 116] : Str), ([105, 110, 116, 111] : Str)].map eStr)))]) (objs := [.box [.d (.sl false (x228.2.code.map eIntu8)), .d (.int .i64 x228.2.at_), .d (.int .u64 x228.2.seed)], .box [.d (.cx .f32 d_.Feeder.Source.A.re d_.Feeder.Source.A.im), .d (.cx .f32 d_.Feeder.Source.B.re d_.Feeder.Source.B.im), .d (.cx .f32 d_.Feeder.Source.C.re d_.Feeder.Source.C.im), .d (.sl false (d_.Feeder.Buses.map eSBus)), .d (.sl false (d_.Taps.map eSTap)), .d (.sl false (d_.List.map eSOutage))]]) rfl (by simp) rfl (by repeat' first | exact trivial | refine ⟨?_, ?_⟩) ⟨rfl, trivial, rfl, trivial, rfl, trivial, (exV_view (f := eStr) [([97, 116] : Str), ([105, 110, 116, 111] : Str)] rfl rfl rfl), (exVP_view (f := eStr) [([97, 116] : Str), ([105, 110, 116, 111] : Str)] rfl rfl rfl), trivial⟩) ?_
                  refine bnd_elim h fun x231 hx231 h => ?_
                  refine awl_callP hτ false [0] rfl rfl rfl (enterOk func105 rfl rfl) rfl rfl (by simp) ⟨trivial, trivial, trivial⟩ (by repeat' first | exact trivial | refine ⟨?_, ?_⟩) (spec_l00Src_text_ok n x228.2 [([97, 116] : Str), ([105, 110, 116, 111] : Str)] hx231) ?_
                  rintro r0 o0 n0 ⟨rfl, rfl, rfl⟩ -
                  refine grd_elim h fun hg232 h => ?_
                  refine awl_need hτ (v := .d (.str (bstr (x231.1 ++ ([32] : Str))))) rfl rfl (Eq.trans rfl (or_cat _ _)) hg232 ?_
                  refine awl_val hτ rfl rfl rfl ?_
                  refine grd_elim h fun hg233 h => ?_
                  refine awl_need hτ (v := .d (.str (bstr ((x231.1 ++ ([32] : Str)) ++ x82)))) rfl rfl (Eq.trans rfl (or_cat _ _)) hg233 ?_
                  refine grd_elim h fun hg234 h => ?_
                  refine awl_need hτ (v := .d (.str (bstr (((x231.1 ++ ([32] : Str)) ++ x82) ++ ([32] : Str))))) rfl rfl (Eq.trans rfl (or_cat _ _)) hg234 ?_
                  refine awl_val hτ rfl rfl rfl ?_
                  refine grd_elim h fun hg235 h => ?_
                  refine awl_need hτ (v := .d (.str (bstr ((((x231.1 ++ ([32] : Str)) ++ x82) ++ ([32] : Str)) ++ x84)))) rfl rfl (Eq.trans rfl (or_cat _ _)) hg235 ?_
                  refine awl_val hτ rfl rfl rfl ?_
                  refine awl_nil ?_
                  refine aw_weak (weak_ofP [0, 1] (l := [(4, .d (.str (bstr ((((x231.1 ++ ([32] : Str)) ++ x82) ++ ([32] : Str)) ++ x84))))]) (objs := [.box [.d (.sl false (x231.2.code.map eIntu8)), .d (.int .i64 x231.2.at_), .d (.int .u64 x231.2.seed)], .box [.d (.cx .f32 d_.Feeder.Source.A.re d_.Feeder.Source.A.im), .d (.cx .f32 d_.Feeder.Source.B.re d_.Feeder.Source.B.im), .d (.cx .f32 d_.Feeder.Source.C.re d_.Feeder.Source.C.im), .d (.sl false (d_.Feeder.Buses.map eSBus)), .d (.sl false (d_.Taps.map eSTap)), .d (.sl false (d_.List.map eSOutage))]]) rfl (by simp) rfl (by repeat' first | exact trivial | refine ⟨?_, ?_⟩) ⟨rfl, trivial, trivial⟩) ?_
                  refine aw_ret ?_
                  have hr := Option.some.inj h
                  subst hr
                  exact ret_objs (.inr rfl) [] (objs' := [.box [.d (.sl false (x231.2.code.map eIntu8)), .d (.int .i64 x231.2.at_), .d (.int .u64 x231.2.seed)], .box [.d (.cx .f32 d_.Feeder.Source.A.re d_.Feeder.Source.A.im), .d (.cx .f32 d_.Feeder.Source.B.re d_.Feeder.Source.B.im), .d (.cx .f32 d_.Feeder.Source.C.re d_.Feeder.Source.C.im), .d (.sl false (d_.Feeder.Buses.map eSBus)), .d (.sl false (d_.Taps.map eSTap)), .d (.sl false (d_.List.map eSOutage))]]) (new := []) rfl (by simp) (by simp) rfl (by repeat' first | exact trivial | refine ⟨?_, ?_⟩) rfl rfl (by repeat' first | exact trivial | refine ⟨?_, ?_⟩) (fun h => nomatch h) ⟨rfl, rfl, rfl⟩
              · have h := if_f h hc225
                refine aw_seq ?_
                refine aw_region ?_
                refine awl_val hτ (v := .d (.bool (decide (x158.1 = (7 : Int))))) rfl rfl (or_ieq _ _) ?_
                refine awl_val hτ rfl rfl rfl ?_
                refine awl_nil ?_
                refine aw_weak (weak_ofP [0, 1] (l := [(0, .ptr 0 0), (5, .d (.str (bstr x82))), (156, .d (.bool (decide (x158.1 = (7 : Int)))))]) (objs := [.box [.d (.sl false (x158.2.code.map eIntu8)), .d (.int .i64 x158.2.at_), .d (.int .u64 x158.2.seed)], .box [.d (.cx .f32 d_.Feeder.Source.A.re d_.Feeder.Source.A.im), .d (.cx .f32 d_.Feeder.Source.B.re d_.Feeder.Source.B.im), .d (.cx .f32 d_.Feeder.Source.C.re d_.Feeder.Source.C.im), .d (.sl false (d_.Feeder.Buses.map eSBus)), .d (.sl false (d_.Taps.map eSTap)), .d (.sl false (d_.List.map eSOutage))]]) rfl (by simp) rfl (by repeat' first | exact trivial | refine ⟨?_, ?_⟩) ⟨rfl, trivial, rfl, trivial, rfl, trivial, trivial⟩) ?_
                refine aw_cond rfl (fun hc236 => ?_) (fun hc236 => ?_)
                · have h := if_t h hc236
                  refine aw_seq ?_
                  refine aw_region ?_
                  refine awl_val hτ rfl rfl rfl ?_
                  refine bnd_elim h fun x237 hx237 h => ?_
                  refine awl_callP hτ false [0] rfl rfl rfl (enterOk func44 rfl rfl) rfl rfl (by simp) ⟨trivial, trivial, trivial⟩ (by repeat' first | exact trivial | refine ⟨?_, ?_⟩) (spec_l00Src_pick_ok n x158.2 (20 : Int) hx237) ?_
                  rintro r0 o0 n0 ⟨rfl, rfl, rfl⟩ -
                  refine awl_val hτ rfl rfl rfl ?_
                  refine awl_nil ?_
                  refine aw_seq ?_
                  refine aw_region ?_
                  refine awl_val hτ rfl rfl rfl ?_
                  refine grd_elim h fun hg238 h => ?_
                  refine awl_need hτ (v := .d (.str (bstr (([111, 117, 116, 32] : Str) ++ x82)))) rfl rfl (Eq.trans rfl (or_cat _ _)) hg238 ?_
                  refine grd_elim h fun hg239 h => ?_
                  refine awl_need hτ (v := .d (.str (bstr ((([111, 117, 116, 32] : Str) ++ x82) ++ ([32] : Str))))) rfl rfl (Eq.trans rfl (or_cat _ _)) hg239 ?_
                  refine awl_val hτ rfl rfl rfl ?_
                  refine bnd_elim h fun x240 hx240 h => ?_
                  refine awl_callP hτ false [] rfl rfl rfl (enterOk func102 rfl rfl) rfl rfl (by simp) ⟨trivial, trivial⟩ (by repeat' first | exact trivial | refine ⟨?_, ?_⟩) (spec_l01Dec_ok n x237.1 hx240) ?_
                  rintro r0 o0 n0 ⟨rfl, rfl, rfl⟩ -
                  refine grd_elim h fun hg241 h => ?_
                  refine awl_need hτ (v := .d (.str (bstr (((([111, 117, 116, 32] : Str) ++ x82) ++ ([32] : Str)) ++ x240)))) rfl rfl (Eq.trans rfl (or_cat _ _)) hg241 ?_
                  refine grd_elim h fun hg242 h => ?_
                  refine awl_need hτ (v := .d (.str (bstr ((((([111, 117, 116, 32] : Str) ++ x82) ++ ([32] : Str)) ++ x240) ++ ([32] : Str))))) rfl rfl (Eq.trans rfl (or_cat _ _)) hg242 ?_
                  refine awl_val hτ rfl rfl rfl ?_
                  refine awl_val hτ rfl rfl rfl ?_
                  refine awl_weak (weak_ofP [0, 1] (l := [(166, .d (.str (bstr ((((([111, 117, 116, 32] : Str) ++ x82) ++ ([32] : Str)) ++ x240) ++ ([32] : Str))))), (167, .d (.int .i64 x237.1)), (168, .ptr 0 0)]) (objs := [.box [.d (.sl false (x237.2.code.map eIntu8)), .d (.int .i64 x237.2.at_), .d (.int .u64 x237.2.seed)], .box [.d (.cx .f32 d_.Feeder.Source.A.re d_.Feeder.Source.A.im), .d (.cx .f32 d_.Feeder.Source.B.re d_.Feeder.Source.B.im), .d (.cx .f32 d_.Feeder.Source.C.re d_.Feeder.Source.C.im), .d (.sl false (d_.Feeder.Buses.map eSBus)), .d (.sl false (d_.Taps.map eSTap)), .d (.sl false (d_.List.map eSOutage))]]) rfl (by simp) rfl (by repeat' first | exact trivial | refine ⟨?_, ?_⟩) ⟨rfl, trivial, rfl, trivial, rfl, trivial, trivial⟩) ?_
                  refine bnd_elim h fun x243 hx243 h => ?_
                  refine awl_callP hτ false [0] rfl rfl rfl (enterOk func44 rfl rfl) rfl rfl (by simp) ⟨trivial, trivial, trivial⟩ (by repeat' first | exact trivial | refine ⟨?_, ?_⟩) (spec_l00Src_pick_ok n x237.2 (8 : Int) hx243) ?_
                  rintro r0 o0 n0 ⟨rfl, rfl, rfl⟩ -
                  refine awl_val hτ rfl rfl rfl ?_
                  refine bnd_elim h fun x244 hx244 h => ?_
                  refine awl_callP hτ false [] rfl rfl rfl (enterOk func102 rfl rfl) rfl rfl (by simp) ⟨trivial, trivial⟩ (by repeat' first | exact trivial | refine ⟨?_, ?_⟩) (spec_l01Dec_ok n (w64 (x237.1 + x243.1)) hx244) ?_
                  rintro r0 o0 n0 ⟨rfl, rfl, rfl⟩ -
                  refine grd_elim h fun hg245 h => ?_
                  refine awl_need hτ (v := .d (.str (bstr (((((([111, 117, 116, 32] : Str) ++ x82) ++ ([32] : Str)) ++ x240) ++ ([32] : Str)) ++ x244)))) rfl rfl (Eq.trans rfl (or_cat _ _)) hg245 ?_
                  refine awl_val hτ rfl rfl rfl ?_
                  refine awl_nil ?_
                  refine aw_weak (weak_ofP [0, 1] (l := [(4, .d (.str (bstr (((((([111, 117, 116, 32] : Str) ++ x82) ++ ([32] : Str)) ++ x240) ++ ([32] : Str)) ++ x244))))]) (objs := [.box [.d (.sl false (x243.2.code.map eIntu8)), .d (.int .i64 x243.2.at_), .d (.int .u64 x243.2.seed)], .box [.d (.cx .f32 d_.Feeder.Source.A.re d_.Feeder.Source.A.im), .d (.cx .f32 d_.Feeder.Source.B.re d_.Feeder.Source.B.im), .d (.cx .f32 d_.Feeder.Source.C.re d_.Feeder.Source.C.im), .d (.sl false (d_.Feeder.Buses.map eSBus)), .d (.sl false (d_.Taps.map eSTap)), .d (.sl false (d_.List.map eSOutage))]]) rfl (by simp) rfl (by repeat' first | exact trivial | refine ⟨?_, ?_⟩) ⟨rfl, trivial, trivial⟩) ?_
                  refine aw_ret ?_
                  have hr := Option.some.inj h
                  subst hr
                  exact ret_objs (.inr rfl) [] (objs' := [.box [.d (.sl false (x243.2.code.map eIntu8)), .d (.int .i64 x243.2.at_), .d (.int .u64 x243.2.seed)], .box [.d (.cx .f32 d_.Feeder.Source.A.re d_.Feeder.Source.A.im), .d (.cx .f32 d_.Feeder.Source.B.re d_.Feeder.Source.B.im), .d (.cx .f32 d_.Feeder.Source.C.re d_.Feeder.Source.C.im), .d (.sl false (d_.Feeder.Buses.map eSBus)), .d (.sl false (d_.Taps.map eSTap)), .d (.sl false (d_.List.map eSOutage))]]) (new := []) rfl (by simp) (by simp) rfl (by repeat' first | exact trivial | refine ⟨?_, ?_⟩) rfl rfl (by repeat' first | exact trivial | refine ⟨?_, ?_⟩) (fun h => nomatch h) ⟨rfl, rfl, rfl⟩
                · have h := if_f h hc236
                  refine aw_skip ?_
                  refine aw_seq ?_
                  refine aw_region ?_
                  refine awl_val hτ rfl rfl rfl ?_
                  refine awl_val hτ rfl rfl rfl ?_
                  refine grd_elim h fun hg246 h => ?_
                  refine awl_need hτ (v := .d (.str (bstr (([112, 97, 116, 104, 32] : Str) ++ x82)))) rfl rfl (Eq.trans rfl (or_cat _ _)) hg246 ?_
                  refine awl_val hτ rfl rfl rfl ?_
                  refine grd_elim h fun hg247 h => ?_
                  refine awl_need hτ (v := .d (.str (bstr (([112, 97, 116, 104, 32] : Str) ++ x82)))) rfl rfl (Eq.trans rfl (or_cat _ _)) hg247 ?_
                  refine awl_valH hτ rfl rfl rfl ?_
                  refine awl_weak (weak_ofP [0, 1] (l := [(173, .ptr 0 0), (178, .d (.sl false ([([108, 111, 115, 116] : Str), ([99, 111, 117, 110, 116] : Str), ([100, 97, 114, 107, 32, 53] : Str), ([100, 97, 114, 107, 32, 49, 50] : Str), (([112, 97, 116, 104, 32] : Str) ++ x82), (([112, 97, 116, 104, 32] : Str) ++ x82)].map eStr)))]) (objs := [.box [.d (.sl false (x158.2.code.map eIntu8)), .d (.int .i64 x158.2.at_), .d (.int .u64 x158.2.seed)], .box [.d (.cx .f32 d_.Feeder.Source.A.re d_.Feeder.Source.A.im), .d (.cx .f32 d_.Feeder.Source.B.re d_.Feeder.Source.B.im), .d (.cx .f32 d_.Feeder.Source.C.re d_.Feeder.Source.C.im), .d (.sl false (d_.Feeder.Buses.map eSBus)), .d (.sl false (d_.Taps.map eSTap)), .d (.sl false (d_.List.map eSOutage))]]) rfl (by simp) rfl (by repeat' first | exact trivial | refine ⟨?_, ?_⟩) ⟨rfl, trivial, (exV_view (f := eStr) [([108, 111, 115, 116] : Str), ([99, 111, 117, 110, 116] : Str), ([100, 97, 114, 107, 32, 53] : Str), ([100, 97, 114, 107, 32, 49, 50] : Str), (([112, 97, 116, 104, 32] : Str) ++ x82), (([112, 97, 116, 104, 32] : Str) ++ x82)] rfl rfl rfl), (exVP_view (f := eStr) [([108, 111, 115, 116] : Str), ([99, 111, 117, 110, 116] : Str), ([100, 97, 114, 107, 32, 53] : Str), ([100, 97, 114, 107, 32, 49, 50] : Str), (([112, 97, 116, 104, 32] : Str) ++ x82), (([112, 97, 116, 104, 32] : Str) ++ x82)] rfl rfl rfl), trivial⟩) ?_
                  refine bnd_elim h fun x248 hx248 h => ?_
                  refine awl_callP hτ false [0] rfl rfl rfl (enterOk func105 rfl rfl) rfl rfl (by simp) ⟨trivial, trivial, trivial⟩ (by repeat' first | exact trivial | refine ⟨?_, ?_⟩) (spec_l00Src_text_ok n x158.2 [([108, 111, 115, 116] : Str), ([99, 111, 117, 110, 116] : Str), ([100, 97, 114, 107, 32, 53] : Str), ([100, 97, 114, 107, 32, 49, 50] : Str), (([112, 97, 116, 104, 32] : Str) ++ x82), (([112, 97, 116, 104, 32] : Str) ++ x82)] hx248) ?_
                  rintro r0 o0 n0 ⟨rfl, rfl, rfl⟩ -
                  refine awl_val hτ rfl rfl rfl ?_
                  refine awl_nil ?_
                  refine aw_weak (weak_ofP [0, 1] (l := [(4, .d (.str (bstr x248.1)))]) (objs := [.box [.d (.sl false (x248.2.code.map eIntu8)), .d (.int .i64 x248.2.at_), .d (.int .u64 x248.2.seed)], .box [.d (.cx .f32 d_.Feeder.Source.A.re d_.Feeder.Source.A.im), .d (.cx .f32 d_.Feeder.Source.B.re d_.Feeder.Source.B.im), .d (.cx .f32 d_.Feeder.Source.C.re d_.Feeder.Source.C.im), .d (.sl false (d_.Feeder.Buses.map eSBus)), .d (.sl false (d_.Taps.map eSTap)), .d (.sl false (d_.List.map eSOutage))]]) rfl (by simp) rfl (by repeat' first | exact trivial | refine ⟨?_, ?_⟩) ⟨rfl, trivial, trivial⟩) ?_
                  refine aw_ret ?_
                  have hr := Option.some.inj h
                  subst hr
                  exact ret_objs (.inr rfl) [] (objs' := [.box [.d (.sl false (x248.2.code.map eIntu8)), .d (.int .i64 x248.2.at_), .d (.int .u64 x248.2.seed)], .box [.d (.cx .f32 d_.Feeder.Source.A.re d_.Feeder.Source.A.im), .d (.cx .f32 d_.Feeder.Source.B.re d_.Feeder.Source.B.im), .d (.cx .f32 d_.Feeder.Source.C.re d_.Feeder.Source.C.im), .d (.sl false (d_.Feeder.Buses.map eSBus)), .d (.sl false (d_.Taps.map eSTap)), .d (.sl false (d_.List.map eSOutage))]]) (new := []) rfl (by simp) (by simp) rfl (by repeat' first | exact trivial | refine ⟨?_, ?_⟩) rfl rfl (by repeat' first | exact trivial | refine ⟨?_, ?_⟩) (fun h => nomatch h) ⟨rfl, rfl, rfl⟩

def m_spec_B10Lines_l1 (n : Nat) (d_ : SDesk) : Nat → List Int → Int → Int → List Str → Int → Option (List Str)
  | 0, _, _, _, _, _ => none
  | m33 + 1, v21, v22, v23, v24, v25 =>
    if v25 > (0 : Int) then
      (m_spec_l11DrawLine n (SL00Src.mk v21 v22 v23) d_).bind fun x36 =>
      grd (room (v24.length + 1) 16) <|
      (m_spec_B10Lines_l1 n d_ m33) x36.2.code x36.2.at_ x36.2.seed (v24 ++ [x36.1]) (w64 (v25 - (1 : Int)))
    else
      some v24
def m_spec_B10Lines (n : Nat) (code_ : List Int) (d_ : SDesk) : Option (List Str) :=
  (m_spec_l00From n code_).bind fun x17 =>
  (m_spec_l00Src_pick n x17 (7 : Int)).bind fun x18 =>
  m_spec_B10Lines_l1 n d_ n x18.2.code x18.2.at_ x18.2.seed ([] : List Str) x18.1
theorem spec_B10Lines_ok_fr0 (fr : Bool) (n : Nat) (code_ : List Int) (d_ : SDesk) {r : List Str} (h : m_spec_B10Lines n code_ d_ = some r) : ACall prog fr 39 [.d (.sl false (code_.map eIntu8)), .agg [.d (.cx .f32 d_.Feeder.Source.A.re d_.Feeder.Source.A.im), .d (.cx .f32 d_.Feeder.Source.B.re d_.Feeder.Source.B.im), .d (.cx .f32 d_.Feeder.Source.C.re d_.Feeder.Source.C.im), .d (.sl false (d_.Feeder.Buses.map eSBus)), .d (.sl false (d_.Taps.map eSTap)), .d (.sl false (d_.List.map eSOutage))]] [] (fun v o new => v = .row 0 r.length 0 r.length ∧ o = [] ∧ new = [.row 1 (r.map eStr)]) := by
  refine acall_of_aw hτ func39 rfl (by simp) (by simp) ?_
  unfold m_spec_B10Lines at h
  refine aw_seq ?_
  refine aw_region ?_
  refine awl_valH hτ rfl rfl rfl ?_
  refine awl_val hτ rfl rfl rfl ?_
  refine awl_nil ?_
  refine aw_seq ?_
  refine aw_region ?_
  refine awl_val hτ rfl rfl rfl ?_
  refine bnd_elim h fun x17 hx17 h => ?_
  refine awl_callP hτ false [] rfl rfl rfl (enterOk func43 rfl rfl) rfl rfl (by simp) ⟨trivial, trivial⟩ (by repeat' first | exact trivial | refine ⟨?_, ?_⟩) (spec_l00From_ok n code_ hx17) ?_
  rintro r0 o0 n0 ⟨rfl, rfl, rfl⟩ -
  refine awl_val hτ rfl rfl rfl ?_
  refine awl_nil ?_
  refine aw_seq ?_
  refine aw_region ?_
  refine awl_valH hτ rfl rfl rfl ?_
  refine awl_val hτ rfl rfl rfl ?_
  refine awl_nil ?_
  refine aw_seq ?_
  refine aw_seq ?_
  refine aw_weak (weak_ofP [0, 1, 2] (l := [(3, .ptr 0 0), (5, .ptr 1 0), (6, .row 2 (([] : List Str).length) 0 (([] : List Str).length))]) (objs := [.box [.d (.cx .f32 d_.Feeder.Source.A.re d_.Feeder.Source.A.im), .d (.cx .f32 d_.Feeder.Source.B.re d_.Feeder.Source.B.im), .d (.cx .f32 d_.Feeder.Source.C.re d_.Feeder.Source.C.im), .d (.sl false (d_.Feeder.Buses.map eSBus)), .d (.sl false (d_.Taps.map eSTap)), .d (.sl false (d_.List.map eSOutage))], .box [.d (.sl false (x17.code.map eIntu8)), .d (.int .i64 x17.at_), .d (.int .u64 x17.seed)], .row 1 (([] : List Str).map eStr)]) rfl (by simp) rfl (by repeat' first | exact trivial | refine ⟨?_, ?_⟩) ⟨rfl, trivial, rfl, trivial, rfl, trivial, trivial⟩) ?_
  refine aw_region ?_
  refine awl_val hτ rfl rfl rfl ?_
  refine bnd_elim h fun x18 hx18 h => ?_
  refine awl_callP hτ false [1] rfl rfl rfl (enterOk func44 rfl rfl) rfl rfl (by simp) ⟨trivial, trivial, trivial⟩ (by repeat' first | exact trivial | refine ⟨?_, ?_⟩) (spec_l00Src_pick_ok n x17 (7 : Int) hx18) ?_
  rintro r0 o0 n0 ⟨rfl, rfl, rfl⟩ -
  refine awl_val hτ rfl rfl rfl ?_
  refine awl_nil ?_
  refine aw_block ?_
  refine aw_loop (ι := Nat × List Int × Int × Int × List Str × Int) (fun (m33, v21, v22, v23, v24, v25) => St.of [(3, .ptr 0 0), (5, .ptr 1 0), (6, .row 2 v24.length 0 v24.length), (7, .d (.int .i64 v25))] [.box [.d (.cx .f32 d_.Feeder.Source.A.re d_.Feeder.Source.A.im), .d (.cx .f32 d_.Feeder.Source.B.re d_.Feeder.Source.B.im), .d (.cx .f32 d_.Feeder.Source.C.re d_.Feeder.Source.C.im), .d (.sl false (d_.Feeder.Buses.map eSBus)), .d (.sl false (d_.Taps.map eSTap)), .d (.sl false (d_.List.map eSOutage))], .box [.d (.sl false (v21.map eIntu8)), .d (.int .i64 v22), .d (.int .u64 v23)], .row 1 (v24.map eStr)] f39.ntmps 0) (fun (m33, v21, v22, v23, v24, v25) => m_spec_B10Lines_l1 n d_ m33 v21 v22 v23 v24 v25 = some r) (fun x => x.1) (n, x18.2.code, x18.2.at_, x18.2.seed, ([] : List Str), x18.1) h (weak_ofP [0, 1, 2] (l := [(3, .ptr 0 0), (5, .ptr 1 0), (6, .row 2 (([] : List Str).length) 0 (([] : List Str).length)), (7, .d (.int .i64 x18.1))]) (objs := [.box [.d (.cx .f32 d_.Feeder.Source.A.re d_.Feeder.Source.A.im), .d (.cx .f32 d_.Feeder.Source.B.re d_.Feeder.Source.B.im), .d (.cx .f32 d_.Feeder.Source.C.re d_.Feeder.Source.C.im), .d (.sl false (d_.Feeder.Buses.map eSBus)), .d (.sl false (d_.Taps.map eSTap)), .d (.sl false (d_.List.map eSOutage))], .box [.d (.sl false (x18.2.code.map eIntu8)), .d (.int .i64 x18.2.at_), .d (.int .u64 x18.2.seed)], .row 1 (([] : List Str).map eStr)]) rfl (by simp) rfl (by repeat' first | exact trivial | refine ⟨?_, ?_⟩) ⟨rfl, trivial, rfl, trivial, rfl, trivial, rfl, trivial, trivial⟩) ?_
  rintro ⟨m33, v21, v22, v23, v24, v25⟩ h
  replace h : m_spec_B10Lines_l1 n d_ m33 v21 v22 v23 v24 v25 = some r := h
  rcases m33 with _ | m33
  · rw [m_spec_B10Lines_l1] at h; cases h
  rw [m_spec_B10Lines_l1] at h
  refine aw_seq ?_
  refine aw_seq ?_
  refine aw_region ?_
  refine awl_val hτ rfl rfl rfl ?_
  refine awl_val hτ rfl rfl rfl ?_
  refine awl_nil ?_
  refine aw_cond rfl (fun hc35 => ?_) (fun hc35 => ?_)
  · have h := if_t h hc35
    refine aw_skip ?_
    refine aw_seq ?_
    refine aw_block ?_
    refine aw_region ?_
    refine awl_val hτ rfl rfl rfl ?_
    refine awl_val hτ rfl rfl rfl ?_
    refine bnd_elim h fun x36 hx36 h => ?_
    refine awl_callP hτ false [1, 0] rfl rfl rfl (enterOk func78 rfl rfl) rfl rfl (by simp) ⟨trivial, trivial, trivial⟩ (by repeat' first | exact trivial | refine ⟨?_, ?_⟩) (spec_l11DrawLine_ok n (SL00Src.mk v21 v22 v23) d_ hx36) ?_
    rintro r0 o0 n0 ⟨rfl, rfl, rfl⟩ -
    refine awl_valH hτ rfl rfl rfl ?_
    refine grd_elim h fun hg37 h => ?_
    refine awl_needH hτ rfl rfl (Eq.trans rfl (or_append (f := eStr) v24 [x36.1] rfl)) ⟨⟨rfl, Nat.le_of_ble_eq_true rfl⟩, len_map _, rfl, rfl, hg37, by decide, (all1 rfl)⟩ ?_
    refine awl_val hτ rfl rfl rfl ?_
    refine awl_nil ?_
    refine aw_weak (weak_ofP [0, 1, 2] (l := [(3, .ptr 0 0), (5, .ptr 1 0), (6, .row 2 ((v24 ++ [x36.1]).length) 0 ((v24 ++ [x36.1]).length)), (7, .d (.int .i64 v25))]) (objs := [.box [.d (.cx .f32 d_.Feeder.Source.A.re d_.Feeder.Source.A.im), .d (.cx .f32 d_.Feeder.Source.B.re d_.Feeder.Source.B.im), .d (.cx .f32 d_.Feeder.Source.C.re d_.Feeder.Source.C.im), .d (.sl false (d_.Feeder.Buses.map eSBus)), .d (.sl false (d_.Taps.map eSTap)), .d (.sl false (d_.List.map eSOutage))], .box [.d (.sl false (x36.2.code.map eIntu8)), .d (.int .i64 x36.2.at_), .d (.int .u64 x36.2.seed)], .row 1 ((v24 ++ [x36.1]).map eStr)]) rfl (by simp) rfl (by repeat' first | exact trivial | refine ⟨?_, ?_⟩) ⟨rfl, trivial, rfl, trivial, rfl, trivial, rfl, trivial, trivial⟩) ?_
    refine aw_region ?_
    refine awl_val hτ rfl rfl rfl ?_
    refine awl_val hτ rfl rfl rfl ?_
    refine awl_val hτ rfl rfl rfl ?_
    refine awl_nil ?_
    exact ⟨(m33, x36.2.code, x36.2.at_, x36.2.seed, (v24 ++ [x36.1]), (w64 (v25 - (1 : Int)))), h, Nat.lt_succ_self m33, (weak_ofP [0, 1, 2] (l := [(3, .ptr 0 0), (5, .ptr 1 0), (6, .row 2 ((v24 ++ [x36.1]).length) 0 ((v24 ++ [x36.1]).length)), (7, .d (.int .i64 (w64 (v25 - (1 : Int)))))]) (objs := [.box [.d (.cx .f32 d_.Feeder.Source.A.re d_.Feeder.Source.A.im), .d (.cx .f32 d_.Feeder.Source.B.re d_.Feeder.Source.B.im), .d (.cx .f32 d_.Feeder.Source.C.re d_.Feeder.Source.C.im), .d (.sl false (d_.Feeder.Buses.map eSBus)), .d (.sl false (d_.Taps.map eSTap)), .d (.sl false (d_.List.map eSOutage))], .box [.d (.sl false (x36.2.code.map eIntu8)), .d (.int .i64 x36.2.at_), .d (.int .u64 x36.2.seed)], .row 1 ((v24 ++ [x36.1]).map eStr)]) rfl (by simp) rfl (by repeat' first | exact trivial | refine ⟨?_, ?_⟩) ⟨rfl, trivial, rfl, trivial, rfl, trivial, rfl, trivial, trivial⟩)⟩
  · have h := if_f h hc35
    refine aw_exit ?_
    refine aw_seq ?_
    refine aw_region ?_
    refine awl_val hτ rfl rfl rfl ?_
    refine awl_val hτ rfl rfl rfl ?_
    refine awl_nil ?_
    refine aw_weak (weak_ofP [2] (l := [(4, .row 0 v24.length 0 v24.length)]) (objs := [.row 1 (v24.map eStr)]) rfl (by simp) rfl (by repeat' first | exact trivial | refine ⟨?_, ?_⟩) ⟨rfl, trivial, trivial⟩) ?_
    refine aw_ret ?_
    have hr := Option.some.inj h
    subst hr
    exact ret_objs (.inr rfl) [0] (objs' := []) (new := [.row 1 (v24.map eStr)]) rfl (by simp) (by simp) rfl (by repeat' first | exact trivial | refine ⟨?_, ?_⟩) rfl rfl (by repeat' first | exact trivial | refine ⟨?_, ?_⟩) (fun _ => ⟨by simp [V.flat, V.flatA, V.flatC, D.flat], (flat_cons (flat_row eStr_flat _) flat_nil)⟩) ⟨rfl, rfl, rfl⟩
theorem spec_B10Lines_ok (n : Nat) (code_ : List Int) (d_ : SDesk) {r : List Str} (h : m_spec_B10Lines n code_ d_ = some r) : ACall prog false 39 [.d (.sl false (code_.map eIntu8)), .agg [.d (.cx .f32 d_.Feeder.Source.A.re d_.Feeder.Source.A.im), .d (.cx .f32 d_.Feeder.Source.B.re d_.Feeder.Source.B.im), .d (.cx .f32 d_.Feeder.Source.C.re d_.Feeder.Source.C.im), .d (.sl false (d_.Feeder.Buses.map eSBus)), .d (.sl false (d_.Taps.map eSTap)), .d (.sl false (d_.List.map eSOutage))]] [] (fun v o new => v = .row 0 r.length 0 r.length ∧ o = [] ∧ new = [.row 1 (r.map eStr)]) := spec_B10Lines_ok_fr0 false n code_ d_ h
theorem spec_B10Lines_ok_fr (n : Nat) (code_ : List Int) (d_ : SDesk) {r : List Str} (h : m_spec_B10Lines n code_ d_ = some r) : ACall prog true 39 [.d (.sl false (code_.map eIntu8)), .agg [.d (.cx .f32 d_.Feeder.Source.A.re d_.Feeder.Source.A.im), .d (.cx .f32 d_.Feeder.Source.B.re d_.Feeder.Source.B.im), .d (.cx .f32 d_.Feeder.Source.C.re d_.Feeder.Source.C.im), .d (.sl false (d_.Feeder.Buses.map eSBus)), .d (.sl false (d_.Taps.map eSTap)), .d (.sl false (d_.List.map eSOutage))]] [] (fun v o new => v = .row 0 r.length 0 r.length ∧ o = [] ∧ new = [.row 1 (r.map eStr)]) := spec_B10Lines_ok_fr0 true n code_ d_ h

end Go.Proofs.YtdgkahieegcmeaaDoor.AWN
