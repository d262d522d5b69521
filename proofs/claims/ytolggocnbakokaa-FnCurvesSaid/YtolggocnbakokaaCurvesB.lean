/- Models and contracts, printed by program. -/
import Derived.Test.YtolggocnbakokaaCurvesA
set_option linter.unusedVariables false
set_option linter.unusedSimpArgs false
set_option linter.unusedSectionVars false
set_option maxHeartbeats 2000000
namespace Go.Proofs.Ytolggocnbakokaa.AWN
open Go Go.Proofs.Try

def m_spec_l07Grade_j2 (n : Nat) (k38 : Nat → Bool → Int → Option (Nat × Bool)) (v26 : Int) (v47 : Nat) (v48 : Bool) : Option (Nat × Bool) :=
  k38 v47 v48 (w64 (v26 + (1 : Int)))
def m_spec_l07Grade_j3 (n : Nat) (k38 : Nat → Bool → Int → Option (Nat × Bool)) (v24 : Nat) (v25 : Bool) (v26 : Int) (x50 : Nat × Bool) (v55 : Bool) : Option (Nat × Bool) :=
  if v55 = true then
    m_spec_l07Grade_j2 n k38 v26 x50.1 true
  else
    m_spec_l07Grade_j2 n k38 v26 v24 v25
def m_spec_l07Grade_l1 (n : Nat) (a_ : SCurve) (b_ : SCurve) (low_ : Nat) (high_ : Nat) (count_ : Int) : Nat → Nat → Bool → Int → Option (Nat × Bool)
  | 0, _, _, _ => none
  | m37 + 1, v24, v25, v26 =>
    if v26 ≤ count_ then
      (m_spec_l07Margin n a_ b_ (farith .add .f32 low_ (farith .mul .f32 (farith .sub .f32 high_ low_) (farith .quo .f32 (FloatKind.nearest .f32 v26) (FloatKind.nearest .f32 count_))))).bind fun x50 =>
      if x50.2 = true then
        if v25 = true then
          m_spec_l07Grade_j3 n (m_spec_l07Grade_l1 n a_ b_ low_ high_ count_ m37) v24 v25 v26 x50 (fcmp .lss .f32 x50.1 v24)
        else
          m_spec_l07Grade_j3 n (m_spec_l07Grade_l1 n a_ b_ low_ high_ count_ m37) v24 v25 v26 x50 true
      else
        m_spec_l07Grade_j3 n (m_spec_l07Grade_l1 n a_ b_ low_ high_ count_ m37) v24 v25 v26 x50 false
    else
      some (v24, v25)
def m_spec_l07Grade (n : Nat) (a_ : SCurve) (b_ : SCurve) (low_ : Nat) (high_ : Nat) (count_ : Int) : Option (Nat × Bool) :=
  m_spec_l07Grade_l1 n a_ b_ low_ high_ count_ n (0 : Nat) false (0 : Int)
theorem spec_l07Grade_ok (n : Nat) (a_ : SCurve) (b_ : SCurve) (low_ : Nat) (high_ : Nat) (count_ : Int) {r : Nat × Bool} (h : m_spec_l07Grade n a_ b_ low_ high_ count_ = some r) : ACall prog false 71 [.ptr 0 0, .ptr 1 0, .d (.fl .f32 low_), .d (.fl .f32 high_), .d (.int .i64 count_)] [.box [.d (.sl false (a_.Currents.map eNatf32)), .d (.sl false (a_.Times.map eNatf32))], .box [.d (.sl false (b_.Currents.map eNatf32)), .d (.sl false (b_.Times.map eNatf32))]] (fun v o new => v = .tup [.d (.fl .f32 r.1), .d (.bool r.2)] ∧ o = [.box [.d (.sl false (a_.Currents.map eNatf32)), .d (.sl false (a_.Times.map eNatf32))], .box [.d (.sl false (b_.Currents.map eNatf32)), .d (.sl false (b_.Times.map eNatf32))]] ∧ new = []) := by
  refine acall_of_aw hτ func71 rfl (by simp) (by simp) ?_
  unfold m_spec_l07Grade at h
  refine aw_seq ?_
  refine aw_region ?_
  refine awl_val hτ rfl rfl rfl ?_
  refine awl_val hτ rfl rfl rfl ?_
  refine awl_nil ?_
  refine aw_seq ?_
  refine aw_region ?_
  refine awl_val hτ rfl rfl rfl ?_
  refine awl_nil ?_
  refine aw_seq ?_
  refine aw_region ?_
  refine awl_val hτ rfl rfl rfl ?_
  refine awl_nil ?_
  refine aw_seq ?_
  refine aw_seq ?_
  refine aw_region ?_
  refine awl_val hτ rfl rfl rfl ?_
  refine awl_nil ?_
  refine aw_block ?_
  refine aw_loop (ι := Nat × Nat × Bool × Int) (fun (m37, v24, v25, v26) => St.of [(0, .ptr 0 0), (1, .ptr 1 0), (2, .d (.fl .f32 low_)), (3, .d (.fl .f32 high_)), (4, .d (.int .i64 count_)), (12, .d (.fl .f32 v24)), (13, .d (.bool v25)), (14, .d (.int .i64 v26))] [.box [.d (.sl false (a_.Currents.map eNatf32)), .d (.sl false (a_.Times.map eNatf32))], .box [.d (.sl false (b_.Currents.map eNatf32)), .d (.sl false (b_.Times.map eNatf32))]] f71.ntmps 2) (fun (m37, v24, v25, v26) => m_spec_l07Grade_l1 n a_ b_ low_ high_ count_ m37 v24 v25 v26 = some r) (fun x => x.1) (n, (0 : Nat), false, (0 : Int)) h (weak_ofP [0, 1] (l := [(0, .ptr 0 0), (1, .ptr 1 0), (2, .d (.fl .f32 low_)), (3, .d (.fl .f32 high_)), (4, .d (.int .i64 count_)), (12, .d (.fl .f32 (0 : Nat))), (13, .d (.bool false)), (14, .d (.int .i64 (0 : Int)))]) (objs := [.box [.d (.sl false (a_.Currents.map eNatf32)), .d (.sl false (a_.Times.map eNatf32))], .box [.d (.sl false (b_.Currents.map eNatf32)), .d (.sl false (b_.Times.map eNatf32))]]) rfl (by simp) rfl (by repeat' first | exact trivial | refine ⟨?_, ?_⟩) ⟨rfl, trivial, rfl, trivial, rfl, trivial, rfl, trivial, rfl, trivial, rfl, trivial, rfl, trivial, rfl, trivial, trivial⟩) ?_
  rintro ⟨m37, v24, v25, v26⟩ h
  replace h : m_spec_l07Grade_l1 n a_ b_ low_ high_ count_ m37 v24 v25 v26 = some r := h
  rcases m37 with _ | m37
  · rw [m_spec_l07Grade_l1] at h; cases h
  rw [m_spec_l07Grade_l1] at h
  refine aw_seq ?_
  refine aw_seq ?_
  refine aw_region ?_
  refine awl_val hτ rfl rfl rfl ?_
  refine awl_val hτ rfl rfl rfl ?_
  refine awl_val hτ rfl rfl rfl ?_
  refine awl_nil ?_
  refine aw_cond rfl (fun hc39 => ?_) (fun hc39 => ?_)
  · have h := if_t h hc39
    refine aw_skip ?_
    refine aw_hk1 (ι := Nat × Bool) (fun (v47, v48) => St.of [(0, .ptr 0 0), (1, .ptr 1 0), (2, .d (.fl .f32 low_)), (3, .d (.fl .f32 high_)), (4, .d (.int .i64 count_)), (12, .d (.fl .f32 v47)), (13, .d (.bool v48)), (14, .d (.int .i64 v26))] [.box [.d (.sl false (a_.Currents.map eNatf32)), .d (.sl false (a_.Times.map eNatf32))], .box [.d (.sl false (b_.Currents.map eNatf32)), .d (.sl false (b_.Times.map eNatf32))]] f71.ntmps 2) (fun (v47, v48) => m_spec_l07Grade_j2 n (m_spec_l07Grade_l1 n a_ b_ low_ high_ count_ m37) v26 v47 v48 = some r) ?_ (fun hk49 => ?_)
    · rintro ⟨v47, v48⟩ h
      replace h : m_spec_l07Grade_j2 n (m_spec_l07Grade_l1 n a_ b_ low_ high_ count_ m37) v26 v47 v48 = some r := h
      unfold m_spec_l07Grade_j2 at h
      refine aw_region ?_
      refine awl_val hτ rfl rfl rfl ?_
      refine awl_val hτ rfl rfl rfl ?_
      refine awl_val hτ rfl rfl rfl ?_
      refine awl_nil ?_
      exact ⟨(m37, v47, v48, (w64 (v26 + (1 : Int)))), h, Nat.lt_succ_self m37, (weak_ofP [0, 1] (l := [(0, .ptr 0 0), (1, .ptr 1 0), (2, .d (.fl .f32 low_)), (3, .d (.fl .f32 high_)), (4, .d (.int .i64 count_)), (12, .d (.fl .f32 v47)), (13, .d (.bool v48)), (14, .d (.int .i64 (w64 (v26 + (1 : Int)))))]) (objs := [.box [.d (.sl false (a_.Currents.map eNatf32)), .d (.sl false (a_.Times.map eNatf32))], .box [.d (.sl false (b_.Currents.map eNatf32)), .d (.sl false (b_.Times.map eNatf32))]]) rfl (by simp) rfl (by repeat' first | exact trivial | refine ⟨?_, ?_⟩) ⟨rfl, trivial, rfl, trivial, rfl, trivial, rfl, trivial, rfl, trivial, rfl, trivial, rfl, trivial, rfl, trivial, trivial⟩)⟩
    · refine aw_seq ?_
      refine aw_block ?_
      refine aw_seq ?_
      refine aw_region ?_
      refine awl_val hτ rfl rfl rfl ?_
      refine awl_val hτ rfl rfl rfl ?_
      refine awl_val hτ rfl rfl rfl ?_
      refine awl_val hτ rfl rfl rfl ?_
      refine awl_val hτ rfl rfl rfl ?_
      refine awl_val hτ rfl rfl rfl ?_
      refine awl_nil ?_
      refine aw_seq ?_
      refine aw_weak (weak_ofP [0, 1] (l := [(0, .ptr 0 0), (1, .ptr 1 0), (2, .d (.fl .f32 low_)), (3, .d (.fl .f32 high_)), (4, .d (.int .i64 count_)), (12, .d (.fl .f32 v24)), (13, .d (.bool v25)), (14, .d (.int .i64 v26)), (15, .d (.fl .f32 (farith .quo .f32 (FloatKind.nearest .f32 v26) (FloatKind.nearest .f32 count_))))]) (objs := [.box [.d (.sl false (a_.Currents.map eNatf32)), .d (.sl false (a_.Times.map eNatf32))], .box [.d (.sl false (b_.Currents.map eNatf32)), .d (.sl false (b_.Times.map eNatf32))]]) rfl (by simp) rfl (by repeat' first | exact trivial | refine ⟨?_, ?_⟩) ⟨rfl, trivial, rfl, trivial, rfl, trivial, rfl, trivial, rfl, trivial, rfl, trivial, rfl, trivial, rfl, trivial, rfl, trivial, trivial⟩) ?_
      refine aw_region ?_
      refine awl_val hτ rfl rfl rfl ?_
      refine awl_val hτ rfl rfl rfl ?_
      refine awl_val hτ rfl rfl rfl ?_
      refine awl_val hτ rfl rfl rfl ?_
      refine awl_val hτ rfl rfl rfl ?_
      refine awl_val hτ rfl rfl rfl ?_
      refine awl_val hτ rfl rfl rfl ?_
      refine awl_val hτ rfl rfl rfl ?_
      refine awl_val hτ rfl rfl rfl ?_
      refine bnd_elim h fun x50 hx50 h => ?_
      refine awl_callP hτ false [0, 1] rfl rfl rfl (enterOk func99 rfl rfl) rfl rfl (by simp) ⟨trivial, trivial, trivial, trivial⟩ (by repeat' first | exact trivial | refine ⟨?_, ?_⟩) (spec_l07Margin_ok n a_ b_ (farith .add .f32 low_ (farith .mul .f32 (farith .sub .f32 high_ low_) (farith .quo .f32 (FloatKind.nearest .f32 v26) (FloatKind.nearest .f32 count_)))) hx50) ?_
      rintro r0 o0 n0 ⟨rfl, rfl, rfl⟩ -
      refine awl_val hτ rfl rfl rfl ?_
      refine awl_val hτ rfl rfl rfl ?_
      refine awl_weak (weak_ofP [0, 1] (l := [(0, .ptr 0 0), (1, .ptr 1 0), (2, .d (.fl .f32 low_)), (3, .d (.fl .f32 high_)), (4, .d (.int .i64 count_)), (12, .d (.fl .f32 v24)), (13, .d (.bool v25)), (14, .d (.int .i64 v26)), (28, .tup [.d (.fl .f32 x50.1), .d (.bool x50.2)]), (39, .d (.fl .f32 x50.1))]) (objs := [.box [.d (.sl false (a_.Currents.map eNatf32)), .d (.sl false (a_.Times.map eNatf32))], .box [.d (.sl false (b_.Currents.map eNatf32)), .d (.sl false (b_.Times.map eNatf32))]]) rfl (by simp) rfl (by repeat' first | exact trivial | refine ⟨?_, ?_⟩) ⟨rfl, trivial, rfl, trivial, rfl, trivial, rfl, trivial, rfl, trivial, rfl, trivial, rfl, trivial, rfl, trivial, rfl, (by repeat' first | exact trivial | refine ⟨?_, ?_⟩), rfl, trivial, trivial⟩) ?_
      refine awl_val hτ rfl rfl rfl ?_
      refine awl_val hτ rfl rfl rfl ?_
      refine awl_val hτ rfl rfl rfl ?_
      refine awl_nil ?_
      refine aw_hk1 (ι := Bool) (fun v55 => St.of [(0, .ptr 0 0), (1, .ptr 1 0), (2, .d (.fl .f32 low_)), (3, .d (.fl .f32 high_)), (4, .d (.int .i64 count_)), (12, .d (.fl .f32 v24)), (13, .d (.bool v25)), (14, .d (.int .i64 v26)), (16, .d (.fl .f32 x50.1)), (50, .d (.bool v55))] [.box [.d (.sl false (a_.Currents.map eNatf32)), .d (.sl false (a_.Times.map eNatf32))], .box [.d (.sl false (b_.Currents.map eNatf32)), .d (.sl false (b_.Times.map eNatf32))]] f71.ntmps 2) (fun v55 => m_spec_l07Grade_j3 n (m_spec_l07Grade_l1 n a_ b_ low_ high_ count_ m37) v24 v25 v26 x50 v55 = some r) ?_ (fun hk57 => ?_)
      · rintro v55 h
        replace h : m_spec_l07Grade_j3 n (m_spec_l07Grade_l1 n a_ b_ low_ high_ count_ m37) v24 v25 v26 x50 v55 = some r := h
        unfold m_spec_l07Grade_j3 at h
        refine aw_cond rfl (fun hc56 => ?_) (fun hc56 => ?_)
        · have h := if_bt h hc56
          refine aw_seq ?_
          refine aw_region ?_
          refine awl_val hτ rfl rfl rfl ?_
          refine awl_nil ?_
          refine aw_region ?_
          refine awl_val hτ rfl rfl rfl ?_
          refine awl_val hτ rfl rfl rfl ?_
          refine awl_nil ?_
          refine aw_weak (weak_ofP [0, 1] (l := [(0, .ptr 0 0), (1, .ptr 1 0), (2, .d (.fl .f32 low_)), (3, .d (.fl .f32 high_)), (4, .d (.int .i64 count_)), (12, .d (.fl .f32 x50.1)), (13, .d (.bool true)), (14, .d (.int .i64 v26))]) (objs := [.box [.d (.sl false (a_.Currents.map eNatf32)), .d (.sl false (a_.Times.map eNatf32))], .box [.d (.sl false (b_.Currents.map eNatf32)), .d (.sl false (b_.Times.map eNatf32))]]) rfl (by simp) rfl (by repeat' first | exact trivial | refine ⟨?_, ?_⟩) ⟨rfl, trivial, rfl, trivial, rfl, trivial, rfl, trivial, rfl, trivial, rfl, trivial, rfl, trivial, rfl, trivial, trivial⟩) ?_
          exact hk49 (x50.1, true) h
        · have h := if_bf h hc56
          refine aw_skip ?_
          refine aw_weak (weak_ofP [0, 1] (l := [(0, .ptr 0 0), (1, .ptr 1 0), (2, .d (.fl .f32 low_)), (3, .d (.fl .f32 high_)), (4, .d (.int .i64 count_)), (12, .d (.fl .f32 v24)), (13, .d (.bool v25)), (14, .d (.int .i64 v26))]) (objs := [.box [.d (.sl false (a_.Currents.map eNatf32)), .d (.sl false (a_.Times.map eNatf32))], .box [.d (.sl false (b_.Currents.map eNatf32)), .d (.sl false (b_.Times.map eNatf32))]]) rfl (by simp) rfl (by repeat' first | exact trivial | refine ⟨?_, ?_⟩) ⟨rfl, trivial, rfl, trivial, rfl, trivial, rfl, trivial, rfl, trivial, rfl, trivial, rfl, trivial, rfl, trivial, trivial⟩) ?_
          exact hk49 (v24, v25) h
      · refine aw_seq ?_
        refine aw_region ?_
        refine awl_val hτ rfl rfl rfl ?_
        refine awl_val hτ rfl rfl rfl ?_
        refine awl_split 42 rfl (fun hb58 => ?_) (fun hb58 => ?_)
        · have h := if_bt h hb58
          refine awl_val hτ rfl rfl rfl ?_
          refine awl_val hτ rfl rfl rfl ?_
          refine awl_val hτ rfl rfl rfl ?_
          refine awl_split 45 rfl (fun hb59 => ?_) (fun hb59 => ?_)
          · have hb59 := not_t hb59
            have h := if_bf h hb59
            refine awl_skip rfl rfl ?_
            refine awl_skip rfl rfl ?_
            refine awl_skip rfl rfl ?_
            refine awl_val hτ rfl rfl rfl ?_
            refine awl_weak (weak_ofP [0, 1] (l := [(0, .ptr 0 0), (1, .ptr 1 0), (2, .d (.fl .f32 low_)), (3, .d (.fl .f32 high_)), (4, .d (.int .i64 count_)), (12, .d (.fl .f32 v24)), (13, .d (.bool v25)), (14, .d (.int .i64 v26)), (16, .d (.fl .f32 x50.1)), (42, .d (.bool true)), (49, .d (.bool true))]) (objs := [.box [.d (.sl false (a_.Currents.map eNatf32)), .d (.sl false (a_.Times.map eNatf32))], .box [.d (.sl false (b_.Currents.map eNatf32)), .d (.sl false (b_.Times.map eNatf32))]]) rfl (by simp) rfl (by repeat' first | exact trivial | refine ⟨?_, ?_⟩) ⟨rfl, trivial, rfl, trivial, rfl, trivial, rfl, trivial, rfl, trivial, rfl, trivial, rfl, trivial, rfl, trivial, rfl, trivial, rfl, trivial, rfl, trivial, trivial⟩) ?_
            refine awl_val hτ rfl rfl rfl ?_
            refine awl_nil ?_
            refine aw_weak (weak_ofP [0, 1] (l := [(0, .ptr 0 0), (1, .ptr 1 0), (2, .d (.fl .f32 low_)), (3, .d (.fl .f32 high_)), (4, .d (.int .i64 count_)), (12, .d (.fl .f32 v24)), (13, .d (.bool v25)), (14, .d (.int .i64 v26)), (16, .d (.fl .f32 x50.1)), (50, .d (.bool true))]) (objs := [.box [.d (.sl false (a_.Currents.map eNatf32)), .d (.sl false (a_.Times.map eNatf32))], .box [.d (.sl false (b_.Currents.map eNatf32)), .d (.sl false (b_.Times.map eNatf32))]]) rfl (by simp) rfl (by repeat' first | exact trivial | refine ⟨?_, ?_⟩) ⟨rfl, trivial, rfl, trivial, rfl, trivial, rfl, trivial, rfl, trivial, rfl, trivial, rfl, trivial, rfl, trivial, rfl, trivial, rfl, trivial, trivial⟩) ?_
            exact hk57 true h
          · have hb59 := not_f hb59
            have h := if_bt h hb59
            refine awl_val hτ rfl rfl rfl ?_
            refine awl_val hτ rfl rfl rfl ?_
            refine awl_val hτ rfl rfl rfl ?_
            refine awl_val hτ rfl rfl rfl ?_
            refine awl_weak (weak_ofP [0, 1] (l := [(0, .ptr 0 0), (1, .ptr 1 0), (2, .d (.fl .f32 low_)), (3, .d (.fl .f32 high_)), (4, .d (.int .i64 count_)), (12, .d (.fl .f32 v24)), (13, .d (.bool v25)), (14, .d (.int .i64 v26)), (16, .d (.fl .f32 x50.1)), (42, .d (.bool true)), (49, .d (.bool (fcmp .lss .f32 x50.1 v24)))]) (objs := [.box [.d (.sl false (a_.Currents.map eNatf32)), .d (.sl false (a_.Times.map eNatf32))], .box [.d (.sl false (b_.Currents.map eNatf32)), .d (.sl false (b_.Times.map eNatf32))]]) rfl (by simp) rfl (by repeat' first | exact trivial | refine ⟨?_, ?_⟩) ⟨rfl, trivial, rfl, trivial, rfl, trivial, rfl, trivial, rfl, trivial, rfl, trivial, rfl, trivial, rfl, trivial, rfl, trivial, rfl, trivial, rfl, trivial, trivial⟩) ?_
            refine awl_val hτ rfl rfl rfl ?_
            refine awl_nil ?_
            refine aw_weak (weak_ofP [0, 1] (l := [(0, .ptr 0 0), (1, .ptr 1 0), (2, .d (.fl .f32 low_)), (3, .d (.fl .f32 high_)), (4, .d (.int .i64 count_)), (12, .d (.fl .f32 v24)), (13, .d (.bool v25)), (14, .d (.int .i64 v26)), (16, .d (.fl .f32 x50.1)), (50, .d (.bool (fcmp .lss .f32 x50.1 v24)))]) (objs := [.box [.d (.sl false (a_.Currents.map eNatf32)), .d (.sl false (a_.Times.map eNatf32))], .box [.d (.sl false (b_.Currents.map eNatf32)), .d (.sl false (b_.Times.map eNatf32))]]) rfl (by simp) rfl (by repeat' first | exact trivial | refine ⟨?_, ?_⟩) ⟨rfl, trivial, rfl, trivial, rfl, trivial, rfl, trivial, rfl, trivial, rfl, trivial, rfl, trivial, rfl, trivial, rfl, trivial, rfl, trivial, trivial⟩) ?_
            exact hk57 (fcmp .lss .f32 x50.1 v24) h
        · have h := if_bf h hb58
          refine awl_skip rfl rfl ?_
          refine awl_skip rfl rfl ?_
          refine awl_skip rfl rfl ?_
          refine awl_skip rfl rfl ?_
          refine awl_skip rfl rfl ?_
          refine awl_skip rfl rfl ?_
          refine awl_skip rfl rfl ?_
          refine awl_weak (weak_ofP [0, 1] (l := [(0, .ptr 0 0), (1, .ptr 1 0), (2, .d (.fl .f32 low_)), (3, .d (.fl .f32 high_)), (4, .d (.int .i64 count_)), (12, .d (.fl .f32 v24)), (13, .d (.bool v25)), (14, .d (.int .i64 v26)), (16, .d (.fl .f32 x50.1)), (42, .d (.bool false)), (49, .und)]) (objs := [.box [.d (.sl false (a_.Currents.map eNatf32)), .d (.sl false (a_.Times.map eNatf32))], .box [.d (.sl false (b_.Currents.map eNatf32)), .d (.sl false (b_.Times.map eNatf32))]]) rfl (by simp) rfl (by repeat' first | exact trivial | refine ⟨?_, ?_⟩) ⟨rfl, trivial, rfl, trivial, rfl, trivial, rfl, trivial, rfl, trivial, rfl, trivial, rfl, trivial, rfl, trivial, rfl, trivial, rfl, trivial, rfl, trivial, trivial⟩) ?_
          refine awl_val hτ rfl rfl rfl ?_
          refine awl_nil ?_
          refine aw_weak (weak_ofP [0, 1] (l := [(0, .ptr 0 0), (1, .ptr 1 0), (2, .d (.fl .f32 low_)), (3, .d (.fl .f32 high_)), (4, .d (.int .i64 count_)), (12, .d (.fl .f32 v24)), (13, .d (.bool v25)), (14, .d (.int .i64 v26)), (16, .d (.fl .f32 x50.1)), (50, .d (.bool false))]) (objs := [.box [.d (.sl false (a_.Currents.map eNatf32)), .d (.sl false (a_.Times.map eNatf32))], .box [.d (.sl false (b_.Currents.map eNatf32)), .d (.sl false (b_.Times.map eNatf32))]]) rfl (by simp) rfl (by repeat' first | exact trivial | refine ⟨?_, ?_⟩) ⟨rfl, trivial, rfl, trivial, rfl, trivial, rfl, trivial, rfl, trivial, rfl, trivial, rfl, trivial, rfl, trivial, rfl, trivial, rfl, trivial, trivial⟩) ?_
          exact hk57 false h
  · have h := if_f h hc39
    refine aw_exit ?_
    refine aw_seq ?_
    refine aw_region ?_
    refine awl_val hτ rfl rfl rfl ?_
    refine awl_val hτ rfl rfl rfl ?_
    refine awl_val hτ rfl rfl rfl ?_
    refine awl_val hτ rfl rfl rfl ?_
    refine awl_nil ?_
    refine aw_weak (weak_ofP [0, 1] (l := [(10, .d (.fl .f32 v24)), (11, .d (.bool v25))]) (objs := [.box [.d (.sl false (a_.Currents.map eNatf32)), .d (.sl false (a_.Times.map eNatf32))], .box [.d (.sl false (b_.Currents.map eNatf32)), .d (.sl false (b_.Times.map eNatf32))]]) rfl (by simp) rfl (by repeat' first | exact trivial | refine ⟨?_, ?_⟩) ⟨rfl, trivial, rfl, trivial, trivial⟩) ?_
    refine aw_ret ?_
    have hr := Option.some.inj h
    subst hr
    exact ret_objs (.inr rfl) [] (objs' := [.box [.d (.sl false (a_.Currents.map eNatf32)), .d (.sl false (a_.Times.map eNatf32))], .box [.d (.sl false (b_.Currents.map eNatf32)), .d (.sl false (b_.Times.map eNatf32))]]) (new := []) rfl (by simp) (by simp) rfl (by repeat' first | exact trivial | refine ⟨?_, ?_⟩) rfl rfl (by repeat' first | exact trivial | refine ⟨?_, ?_⟩) (fun h => nomatch h) ⟨rfl, rfl, rfl⟩

def m_spec_GradeOf_j1 (n : Nat) (a_ : SCurve) (b_ : SCurve) (low_ : Nat) (high_ : Nat) (count_ : Int) : Option (Nat × Bool) :=
  (m_spec_l07Grade n a_ b_ low_ high_ count_).bind fun x14 =>
  if x14.2 = true then
    some (x14.1, true)
  else
    some ((0 : Nat), false)
def m_spec_GradeOf_j2 (n : Nat) (a_ : SCurve) (b_ : SCurve) (low_ : Nat) (high_ : Nat) (count_ : Int) (v23 : Bool) : Option (Nat × Bool) :=
  if v23 = true then
    some ((0 : Nat), false)
  else
    m_spec_GradeOf_j1 n a_ b_ low_ high_ count_
def m_spec_GradeOf (n : Nat) (a_ : SCurve) (b_ : SCurve) (low_ : Nat) (high_ : Nat) (count_ : Int) : Option (Nat × Bool) :=
  (m_spec_l07Is n a_).bind fun x26 =>
  if x26 = true then
    (m_spec_l07Is n b_).bind fun x28 =>
    if x28 = true then
      (m_spec_l00In n count_ (1 : Int) (100 : Int)).bind fun x30 =>
      m_spec_GradeOf_j2 n a_ b_ low_ high_ count_ (!x30)
    else
      m_spec_GradeOf_j2 n a_ b_ low_ high_ count_ true
  else
    m_spec_GradeOf_j2 n a_ b_ low_ high_ count_ true
theorem spec_GradeOf_ok_fr0 (fr : Bool) (n : Nat) (a_ : SCurve) (b_ : SCurve) (low_ : Nat) (high_ : Nat) (count_ : Int) {r : Nat × Bool} (h : m_spec_GradeOf n a_ b_ low_ high_ count_ = some r) : ACall prog fr 32 [.agg [.d (.sl false (a_.Currents.map eNatf32)), .d (.sl false (a_.Times.map eNatf32))], .agg [.d (.sl false (b_.Currents.map eNatf32)), .d (.sl false (b_.Times.map eNatf32))], .d (.fl .f32 low_), .d (.fl .f32 high_), .d (.int .i64 count_)] [] (fun v o new => v = .tup [.d (.fl .f32 r.1), .d (.bool r.2)] ∧ o = [] ∧ new = []) := by
  refine acall_of_aw hτ func32 rfl (by simp) (by simp) ?_
  unfold m_spec_GradeOf at h
  refine aw_seq ?_
  refine aw_region ?_
  refine awl_valH hτ rfl rfl rfl ?_
  refine awl_valH hτ rfl rfl rfl ?_
  refine awl_val hτ rfl rfl rfl ?_
  refine awl_val hτ rfl rfl rfl ?_
  refine awl_nil ?_
  refine aw_hk1 (ι := Unit) (fun _ => St.of [(2, .d (.fl .f32 low_)), (3, .d (.fl .f32 high_)), (4, .d (.int .i64 count_)), (5, .ptr 0 0), (6, .ptr 1 0)] [.box [.d (.sl false (a_.Currents.map eNatf32)), .d (.sl false (a_.Times.map eNatf32))], .box [.d (.sl false (b_.Currents.map eNatf32)), .d (.sl false (b_.Times.map eNatf32))]] f32.ntmps 0) (fun _ => m_spec_GradeOf_j1 n a_ b_ low_ high_ count_ = some r) ?_ (fun hk16 => ?_)
  · rintro ⟨⟩ h
    replace h : m_spec_GradeOf_j1 n a_ b_ low_ high_ count_ = some r := h
    unfold m_spec_GradeOf_j1 at h
    refine aw_seq ?_
    refine aw_region ?_
    refine awl_val hτ rfl rfl rfl ?_
    refine awl_val hτ rfl rfl rfl ?_
    refine awl_val hτ rfl rfl rfl ?_
    refine bnd_elim h fun x14 hx14 h => ?_
    refine awl_callP hτ false [0, 1] rfl rfl rfl (enterOk func71 rfl rfl) rfl rfl (by simp) ⟨trivial, trivial, trivial, trivial, trivial, trivial⟩ (by repeat' first | exact trivial | refine ⟨?_, ?_⟩) (spec_l07Grade_ok n a_ b_ low_ high_ count_ hx14) ?_
    rintro r0 o0 n0 ⟨rfl, rfl, rfl⟩ -
    refine awl_val hτ rfl rfl rfl ?_
    refine awl_val hτ rfl rfl rfl ?_
    refine awl_val hτ rfl rfl rfl ?_
    refine awl_val hτ rfl rfl rfl ?_
    refine awl_val hτ rfl rfl rfl ?_
    refine awl_nil ?_
    refine aw_seq ?_
    refine aw_seq ?_
    refine aw_weak (weak_ofP [] (l := [(12, .d (.fl .f32 x14.1)), (13, .d (.bool x14.2))]) (objs := []) rfl (by simp) rfl (by repeat' first | exact trivial | refine ⟨?_, ?_⟩) ⟨rfl, trivial, rfl, trivial, trivial⟩) ?_
    refine aw_region ?_
    refine awl_val hτ rfl rfl rfl ?_
    refine awl_val hτ rfl rfl rfl ?_
    refine awl_nil ?_
    refine aw_cond rfl (fun hc15 => ?_) (fun hc15 => ?_)
    · have hc15 := not_t hc15
      have h := if_bf h hc15
      refine aw_seq ?_
      refine aw_region ?_
      refine awl_val hτ rfl rfl rfl ?_
      refine awl_val hτ rfl rfl rfl ?_
      refine awl_nil ?_
      refine aw_weak (weak_ofP [] (l := [(10, .d (.fl .f32 (0 : Nat))), (11, .d (.bool false))]) (objs := []) rfl (by simp) rfl (by repeat' first | exact trivial | refine ⟨?_, ?_⟩) ⟨rfl, trivial, rfl, trivial, trivial⟩) ?_
      refine aw_ret ?_
      have hr := Option.some.inj h
      subst hr
      exact ret_objs (.inr rfl) [] (objs' := []) (new := []) rfl (by simp) (by simp) rfl (by repeat' first | exact trivial | refine ⟨?_, ?_⟩) rfl rfl (by repeat' first | exact trivial | refine ⟨?_, ?_⟩) (fun _ => ⟨by simp [V.flat, V.flatA, V.flatC, D.flat], flat_nil⟩) ⟨rfl, rfl, rfl⟩
    · have hc15 := not_f hc15
      have h := if_bt h hc15
      refine aw_skip ?_
      refine aw_seq ?_
      refine aw_region ?_
      refine awl_val hτ rfl rfl rfl ?_
      refine awl_val hτ rfl rfl rfl ?_
      refine awl_val hτ rfl rfl rfl ?_
      refine awl_nil ?_
      refine aw_weak (weak_ofP [] (l := [(10, .d (.fl .f32 x14.1)), (11, .d (.bool true))]) (objs := []) rfl (by simp) rfl (by repeat' first | exact trivial | refine ⟨?_, ?_⟩) ⟨rfl, trivial, rfl, trivial, trivial⟩) ?_
      refine aw_ret ?_
      have hr := Option.some.inj h
      subst hr
      exact ret_objs (.inr rfl) [] (objs' := []) (new := []) rfl (by simp) (by simp) rfl (by repeat' first | exact trivial | refine ⟨?_, ?_⟩) rfl rfl (by repeat' first | exact trivial | refine ⟨?_, ?_⟩) (fun _ => ⟨by simp [V.flat, V.flatA, V.flatC, D.flat], flat_nil⟩) ⟨rfl, rfl, rfl⟩
  · refine aw_seq ?_
    refine aw_hk1 (ι := Bool) (fun v23 => St.of [(2, .d (.fl .f32 low_)), (3, .d (.fl .f32 high_)), (4, .d (.int .i64 count_)), (5, .ptr 0 0), (6, .ptr 1 0), (24, .d (.bool v23))] [.box [.d (.sl false (a_.Currents.map eNatf32)), .d (.sl false (a_.Times.map eNatf32))], .box [.d (.sl false (b_.Currents.map eNatf32)), .d (.sl false (b_.Times.map eNatf32))]] f32.ntmps 0) (fun v23 => m_spec_GradeOf_j2 n a_ b_ low_ high_ count_ v23 = some r) ?_ (fun hk25 => ?_)
    · rintro v23 h
      replace h : m_spec_GradeOf_j2 n a_ b_ low_ high_ count_ v23 = some r := h
      unfold m_spec_GradeOf_j2 at h
      refine aw_cond rfl (fun hc24 => ?_) (fun hc24 => ?_)
      · have h := if_bt h hc24
        refine aw_seq ?_
        refine aw_region ?_
        refine awl_val hτ rfl rfl rfl ?_
        refine awl_val hτ rfl rfl rfl ?_
        refine awl_nil ?_
        refine aw_weak (weak_ofP [] (l := [(10, .d (.fl .f32 (0 : Nat))), (11, .d (.bool false))]) (objs := []) rfl (by simp) rfl (by repeat' first | exact trivial | refine ⟨?_, ?_⟩) ⟨rfl, trivial, rfl, trivial, trivial⟩) ?_
        refine aw_ret ?_
        have hr := Option.some.inj h
        subst hr
        exact ret_objs (.inr rfl) [] (objs' := []) (new := []) rfl (by simp) (by simp) rfl (by repeat' first | exact trivial | refine ⟨?_, ?_⟩) rfl rfl (by repeat' first | exact trivial | refine ⟨?_, ?_⟩) (fun _ => ⟨by simp [V.flat, V.flatA, V.flatC, D.flat], flat_nil⟩) ⟨rfl, rfl, rfl⟩
      · have h := if_bf h hc24
        refine aw_skip ?_
        refine aw_weak (weak_ofP [0, 1] (l := [(2, .d (.fl .f32 low_)), (3, .d (.fl .f32 high_)), (4, .d (.int .i64 count_)), (5, .ptr 0 0), (6, .ptr 1 0)]) (objs := [.box [.d (.sl false (a_.Currents.map eNatf32)), .d (.sl false (a_.Times.map eNatf32))], .box [.d (.sl false (b_.Currents.map eNatf32)), .d (.sl false (b_.Times.map eNatf32))]]) rfl (by simp) rfl (by repeat' first | exact trivial | refine ⟨?_, ?_⟩) ⟨rfl, trivial, rfl, trivial, rfl, trivial, rfl, trivial, rfl, trivial, trivial⟩) ?_
        exact hk16 () h
    · refine aw_seq ?_
      refine aw_region ?_
      refine bnd_elim h fun x26 hx26 h => ?_
      refine awl_callP hτ false [0] rfl rfl rfl (enterOk func69 rfl rfl) rfl rfl (by simp) ⟨trivial, trivial⟩ (by repeat' first | exact trivial | refine ⟨?_, ?_⟩) (spec_l07Is_ok n a_ hx26) ?_
      rintro r0 o0 n0 ⟨rfl, rfl, rfl⟩ -
      refine awl_val hτ rfl rfl rfl ?_
      refine awl_val hτ rfl rfl rfl ?_
      refine awl_split 16 rfl (fun hb27 => ?_) (fun hb27 => ?_)
      · have hb27 := not_t hb27
        have h := if_bf h hb27
        refine awl_skip rfl rfl ?_
        refine awl_skip rfl rfl ?_
        refine awl_val hτ rfl rfl rfl ?_
        refine awl_val hτ rfl rfl rfl ?_
        refine awl_skip rfl rfl ?_
        refine awl_weak (weak_ofP [0, 1] (l := [(2, .d (.fl .f32 low_)), (3, .d (.fl .f32 high_)), (4, .d (.int .i64 count_)), (5, .ptr 0 0), (6, .ptr 1 0), (20, .d (.bool true)), (21, .und)]) (objs := [.box [.d (.sl false (a_.Currents.map eNatf32)), .d (.sl false (a_.Times.map eNatf32))], .box [.d (.sl false (b_.Currents.map eNatf32)), .d (.sl false (b_.Times.map eNatf32))]]) rfl (by simp) rfl (by repeat' first | exact trivial | refine ⟨?_, ?_⟩) ⟨rfl, trivial, rfl, trivial, rfl, trivial, rfl, trivial, rfl, trivial, rfl, trivial, rfl, trivial, trivial⟩) ?_
        refine awl_skip rfl rfl ?_
        refine awl_skip rfl rfl ?_
        refine awl_val hτ rfl rfl rfl ?_
        refine awl_nil ?_
        refine aw_weak (weak_ofP [0, 1] (l := [(2, .d (.fl .f32 low_)), (3, .d (.fl .f32 high_)), (4, .d (.int .i64 count_)), (5, .ptr 0 0), (6, .ptr 1 0), (24, .d (.bool true))]) (objs := [.box [.d (.sl false (a_.Currents.map eNatf32)), .d (.sl false (a_.Times.map eNatf32))], .box [.d (.sl false (b_.Currents.map eNatf32)), .d (.sl false (b_.Times.map eNatf32))]]) rfl (by simp) rfl (by repeat' first | exact trivial | refine ⟨?_, ?_⟩) ⟨rfl, trivial, rfl, trivial, rfl, trivial, rfl, trivial, rfl, trivial, rfl, trivial, trivial⟩) ?_
        exact hk25 true h
      · have hb27 := not_f hb27
        have h := if_bt h hb27
        refine bnd_elim h fun x28 hx28 h => ?_
        refine awl_callP hτ false [1] rfl rfl rfl (enterOk func69 rfl rfl) rfl rfl (by simp) ⟨trivial, trivial⟩ (by repeat' first | exact trivial | refine ⟨?_, ?_⟩) (spec_l07Is_ok n b_ hx28) ?_
        rintro r0 o0 n0 ⟨rfl, rfl, rfl⟩ -
        refine awl_val hτ rfl rfl rfl ?_
        refine awl_val hτ rfl rfl rfl ?_
        refine awl_val hτ rfl rfl rfl ?_
        refine awl_split 20 rfl (fun hb29 => ?_) (fun hb29 => ?_)
        · have hb29 := not_t hb29
          have h := if_bf h hb29
          refine awl_skip rfl rfl ?_
          refine awl_weak (weak_ofP [0, 1] (l := [(2, .d (.fl .f32 low_)), (3, .d (.fl .f32 high_)), (4, .d (.int .i64 count_)), (5, .ptr 0 0), (6, .ptr 1 0), (20, .d (.bool true)), (21, .und)]) (objs := [.box [.d (.sl false (a_.Currents.map eNatf32)), .d (.sl false (a_.Times.map eNatf32))], .box [.d (.sl false (b_.Currents.map eNatf32)), .d (.sl false (b_.Times.map eNatf32))]]) rfl (by simp) rfl (by repeat' first | exact trivial | refine ⟨?_, ?_⟩) ⟨rfl, trivial, rfl, trivial, rfl, trivial, rfl, trivial, rfl, trivial, rfl, trivial, rfl, trivial, trivial⟩) ?_
          refine awl_skip rfl rfl ?_
          refine awl_skip rfl rfl ?_
          refine awl_val hτ rfl rfl rfl ?_
          refine awl_nil ?_
          refine aw_weak (weak_ofP [0, 1] (l := [(2, .d (.fl .f32 low_)), (3, .d (.fl .f32 high_)), (4, .d (.int .i64 count_)), (5, .ptr 0 0), (6, .ptr 1 0), (24, .d (.bool true))]) (objs := [.box [.d (.sl false (a_.Currents.map eNatf32)), .d (.sl false (a_.Times.map eNatf32))], .box [.d (.sl false (b_.Currents.map eNatf32)), .d (.sl false (b_.Times.map eNatf32))]]) rfl (by simp) rfl (by repeat' first | exact trivial | refine ⟨?_, ?_⟩) ⟨rfl, trivial, rfl, trivial, rfl, trivial, rfl, trivial, rfl, trivial, rfl, trivial, trivial⟩) ?_
          exact hk25 true h
        · have hb29 := not_f hb29
          have h := if_bt h hb29
          refine awl_val hτ rfl rfl rfl ?_
          refine awl_weak (weak_ofP [0, 1] (l := [(2, .d (.fl .f32 low_)), (3, .d (.fl .f32 high_)), (4, .d (.int .i64 count_)), (5, .ptr 0 0), (6, .ptr 1 0), (20, .d (.bool false)), (21, .d (.int .i64 count_))]) (objs := [.box [.d (.sl false (a_.Currents.map eNatf32)), .d (.sl false (a_.Times.map eNatf32))], .box [.d (.sl false (b_.Currents.map eNatf32)), .d (.sl false (b_.Times.map eNatf32))]]) rfl (by simp) rfl (by repeat' first | exact trivial | refine ⟨?_, ?_⟩) ⟨rfl, trivial, rfl, trivial, rfl, trivial, rfl, trivial, rfl, trivial, rfl, trivial, rfl, trivial, trivial⟩) ?_
          refine bnd_elim h fun x30 hx30 h => ?_
          refine awl_callP hτ false [] rfl rfl rfl (enterOk func70 rfl rfl) rfl rfl (by simp) ⟨trivial, trivial, trivial, trivial⟩ (by repeat' first | exact trivial | refine ⟨?_, ?_⟩) (spec_l00In_ok n count_ (1 : Int) (100 : Int) hx30) ?_
          rintro r0 o0 n0 ⟨rfl, rfl, rfl⟩ -
          refine awl_val hτ rfl rfl rfl ?_
          refine awl_val hτ rfl rfl rfl ?_
          refine awl_nil ?_
          refine aw_weak (weak_ofP [0, 1] (l := [(2, .d (.fl .f32 low_)), (3, .d (.fl .f32 high_)), (4, .d (.int .i64 count_)), (5, .ptr 0 0), (6, .ptr 1 0), (24, .d (.bool (!x30)))]) (objs := [.box [.d (.sl false (a_.Currents.map eNatf32)), .d (.sl false (a_.Times.map eNatf32))], .box [.d (.sl false (b_.Currents.map eNatf32)), .d (.sl false (b_.Times.map eNatf32))]]) rfl (by simp) rfl (by repeat' first | exact trivial | refine ⟨?_, ?_⟩) ⟨rfl, trivial, rfl, trivial, rfl, trivial, rfl, trivial, rfl, trivial, rfl, trivial, trivial⟩) ?_
          exact hk25 (!x30) h
theorem spec_GradeOf_ok (n : Nat) (a_ : SCurve) (b_ : SCurve) (low_ : Nat) (high_ : Nat) (count_ : Int) {r : Nat × Bool} (h : m_spec_GradeOf n a_ b_ low_ high_ count_ = some r) : ACall prog false 32 [.agg [.d (.sl false (a_.Currents.map eNatf32)), .d (.sl false (a_.Times.map eNatf32))], .agg [.d (.sl false (b_.Currents.map eNatf32)), .d (.sl false (b_.Times.map eNatf32))], .d (.fl .f32 low_), .d (.fl .f32 high_), .d (.int .i64 count_)] [] (fun v o new => v = .tup [.d (.fl .f32 r.1), .d (.bool r.2)] ∧ o = [] ∧ new = []) := spec_GradeOf_ok_fr0 false n a_ b_ low_ high_ count_ h
theorem spec_GradeOf_ok_fr (n : Nat) (a_ : SCurve) (b_ : SCurve) (low_ : Nat) (high_ : Nat) (count_ : Int) {r : Nat × Bool} (h : m_spec_GradeOf n a_ b_ low_ high_ count_ = some r) : ACall prog true 32 [.agg [.d (.sl false (a_.Currents.map eNatf32)), .d (.sl false (a_.Times.map eNatf32))], .agg [.d (.sl false (b_.Currents.map eNatf32)), .d (.sl false (b_.Times.map eNatf32))], .d (.fl .f32 low_), .d (.fl .f32 high_), .d (.int .i64 count_)] [] (fun v o new => v = .tup [.d (.fl .f32 r.1), .d (.bool r.2)] ∧ o = [] ∧ new = []) := spec_GradeOf_ok_fr0 true n a_ b_ low_ high_ count_ h

def m_impl_isNaN (n : Nat) (x_ : Nat) : Option Bool :=
  some (fcmp .neq .f32 x_ x_)
theorem impl_isNaN_ok_fr0 (fr : Bool) (n : Nat) (x_ : Nat) {r : Bool} (h : m_impl_isNaN n x_ = some r) : ACall prog fr 122 [.d (.fl .f32 x_)] [] (fun v o new => v = .d (.bool r) ∧ o = [] ∧ new = []) := by
  refine acall_of_aw hτ func122 rfl (by simp) (by simp) ?_
  unfold m_impl_isNaN at h
  refine aw_seq ?_
  refine aw_region ?_
  refine awl_val hτ rfl rfl rfl ?_
  refine awl_nil ?_
  refine aw_seq ?_
  refine aw_region ?_
  refine awl_val hτ rfl rfl rfl ?_
  refine awl_val hτ rfl rfl rfl ?_
  refine awl_val hτ rfl rfl rfl ?_
  refine awl_val hτ rfl rfl rfl ?_
  refine awl_nil ?_
  refine aw_weak (weak_ofP [] (l := [(2, .d (.bool (fcmp .neq .f32 x_ x_)))]) (objs := []) rfl (by simp) rfl (by repeat' first | exact trivial | refine ⟨?_, ?_⟩) ⟨rfl, trivial, trivial⟩) ?_
  refine aw_ret ?_
  have hr := Option.some.inj h
  subst hr
  exact ret_objs (.inr rfl) [] (objs' := []) (new := []) rfl (by simp) (by simp) rfl (by repeat' first | exact trivial | refine ⟨?_, ?_⟩) rfl rfl (by repeat' first | exact trivial | refine ⟨?_, ?_⟩) (fun _ => ⟨by simp [V.flat, V.flatA, V.flatC, D.flat], flat_nil⟩) ⟨rfl, rfl, rfl⟩
theorem impl_isNaN_ok (n : Nat) (x_ : Nat) {r : Bool} (h : m_impl_isNaN n x_ = some r) : ACall prog false 122 [.d (.fl .f32 x_)] [] (fun v o new => v = .d (.bool r) ∧ o = [] ∧ new = []) := impl_isNaN_ok_fr0 false n x_ h
theorem impl_isNaN_ok_fr (n : Nat) (x_ : Nat) {r : Bool} (h : m_impl_isNaN n x_ = some r) : ACall prog true 122 [.d (.fl .f32 x_)] [] (fun v o new => v = .d (.bool r) ∧ o = [] ∧ new = []) := impl_isNaN_ok_fr0 true n x_ h

def m_impl_SameNumber_j1 (n : Nat) (a_ : Nat) (b_ : Nat) : Option Bool :=
  grd (isnan .f32 a_ = false) <|
  grd (isnan .f32 b_ = false) <|
  some (decide ((a_ : Int) = (b_ : Int)))
def m_impl_SameNumber_j2 (n : Nat) (a_ : Nat) (b_ : Nat) (v26 : Bool) : Option Bool :=
  if v26 = true then
    (m_impl_isNaN n a_).bind fun x28 =>
    if x28 = true then
      (m_impl_isNaN n b_).bind fun x30 =>
      some x30
    else
      some false
  else
    m_impl_SameNumber_j1 n a_ b_
def m_impl_SameNumber (n : Nat) (a_ : Nat) (b_ : Nat) : Option Bool :=
  (m_impl_isNaN n a_).bind fun x32 =>
  if x32 = true then
    m_impl_SameNumber_j2 n a_ b_ true
  else
    (m_impl_isNaN n b_).bind fun x34 =>
    m_impl_SameNumber_j2 n a_ b_ x34
theorem impl_SameNumber_ok_fr0 (fr : Bool) (n : Nat) (a_ : Nat) (b_ : Nat) {r : Bool} (h : m_impl_SameNumber n a_ b_ = some r) : ACall prog fr 101 [.d (.fl .f32 a_), .d (.fl .f32 b_)] [] (fun v o new => v = .d (.bool r) ∧ o = [] ∧ new = []) := by
  refine acall_of_aw hτ func101 rfl (by simp) (by simp) ?_
  unfold m_impl_SameNumber at h
  refine aw_seq ?_
  refine aw_region ?_
  refine awl_val hτ rfl rfl rfl ?_
  refine awl_nil ?_
  refine aw_hk1 (ι := Unit) (fun _ => St.of [(0, .d (.fl .f32 a_)), (1, .d (.fl .f32 b_))] [] f101.ntmps 0) (fun _ => m_impl_SameNumber_j1 n a_ b_ = some r) ?_ (fun hk21 => ?_)
  · rintro ⟨⟩ h
    replace h : m_impl_SameNumber_j1 n a_ b_ = some r := h
    unfold m_impl_SameNumber_j1 at h
    refine aw_seq ?_
    refine aw_region ?_
    refine awl_val hτ rfl rfl rfl ?_
    refine grd_elim h fun hg19 h => ?_
    refine awl_ext hτ rfl rfl rfl (ext123 hg19) ?_
    refine awl_val hτ rfl rfl rfl ?_
    refine grd_elim h fun hg20 h => ?_
    refine awl_ext hτ rfl rfl rfl (ext123 hg20) ?_
    refine awl_val hτ (v := .d (.bool (decide ((a_ : Int) = (b_ : Int))))) rfl rfl (or_ieq _ _) ?_
    refine awl_val hτ rfl rfl rfl ?_
    refine awl_nil ?_
    refine aw_weak (weak_ofP [] (l := [(4, .d (.bool (decide ((a_ : Int) = (b_ : Int)))))]) (objs := []) rfl (by simp) rfl (by repeat' first | exact trivial | refine ⟨?_, ?_⟩) ⟨rfl, trivial, trivial⟩) ?_
    refine aw_ret ?_
    have hr := Option.some.inj h
    subst hr
    exact ret_objs (.inr rfl) [] (objs' := []) (new := []) rfl (by simp) (by simp) rfl (by repeat' first | exact trivial | refine ⟨?_, ?_⟩) rfl rfl (by repeat' first | exact trivial | refine ⟨?_, ?_⟩) (fun _ => ⟨by simp [V.flat, V.flatA, V.flatC, D.flat], flat_nil⟩) ⟨rfl, rfl, rfl⟩
  · refine aw_seq ?_
    refine aw_hk1 (ι := Bool) (fun v26 => St.of [(0, .d (.fl .f32 a_)), (1, .d (.fl .f32 b_)), (10, .d (.bool v26))] [] f101.ntmps 0) (fun v26 => m_impl_SameNumber_j2 n a_ b_ v26 = some r) ?_ (fun hk31 => ?_)
    · rintro v26 h
      replace h : m_impl_SameNumber_j2 n a_ b_ v26 = some r := h
      unfold m_impl_SameNumber_j2 at h
      refine aw_cond rfl (fun hc27 => ?_) (fun hc27 => ?_)
      · have h := if_bt h hc27
        refine aw_seq ?_
        refine aw_region ?_
        refine awl_val hτ rfl rfl rfl ?_
        refine bnd_elim h fun x28 hx28 h => ?_
        refine awl_callP hτ false [] rfl rfl rfl (enterOk func122 rfl rfl) rfl rfl (by simp) ⟨trivial, trivial⟩ (by repeat' first | exact trivial | refine ⟨?_, ?_⟩) (impl_isNaN_ok n a_ hx28) ?_
        rintro r0 o0 n0 ⟨rfl, rfl, rfl⟩ -
        refine awl_val hτ rfl rfl rfl ?_
        refine awl_split 13 rfl (fun hb29 => ?_) (fun hb29 => ?_)
        · have h := if_bt h hb29
          refine awl_val hτ rfl rfl rfl ?_
          refine bnd_elim h fun x30 hx30 h => ?_
          refine awl_callP hτ false [] rfl rfl rfl (enterOk func122 rfl rfl) rfl rfl (by simp) ⟨trivial, trivial⟩ (by repeat' first | exact trivial | refine ⟨?_, ?_⟩) (impl_isNaN_ok n b_ hx30) ?_
          rintro r0 o0 n0 ⟨rfl, rfl, rfl⟩ -
          refine awl_val hτ rfl rfl rfl ?_
          refine awl_val hτ rfl rfl rfl ?_
          refine awl_nil ?_
          refine aw_weak (weak_ofP [] (l := [(4, .d (.bool x30))]) (objs := []) rfl (by simp) rfl (by repeat' first | exact trivial | refine ⟨?_, ?_⟩) ⟨rfl, trivial, trivial⟩) ?_
          refine aw_ret ?_
          have hr := Option.some.inj h
          subst hr
          exact ret_objs (.inr rfl) [] (objs' := []) (new := []) rfl (by simp) (by simp) rfl (by repeat' first | exact trivial | refine ⟨?_, ?_⟩) rfl rfl (by repeat' first | exact trivial | refine ⟨?_, ?_⟩) (fun _ => ⟨by simp [V.flat, V.flatA, V.flatC, D.flat], flat_nil⟩) ⟨rfl, rfl, rfl⟩
        · have h := if_bf h hb29
          refine awl_skip rfl rfl ?_
          refine awl_skip rfl rfl ?_
          refine awl_val hτ rfl rfl rfl ?_
          refine awl_val hτ rfl rfl rfl ?_
          refine awl_nil ?_
          refine aw_weak (weak_ofP [] (l := [(4, .d (.bool false))]) (objs := []) rfl (by simp) rfl (by repeat' first | exact trivial | refine ⟨?_, ?_⟩) ⟨rfl, trivial, trivial⟩) ?_
          refine aw_ret ?_
          have hr := Option.some.inj h
          subst hr
          exact ret_objs (.inr rfl) [] (objs' := []) (new := []) rfl (by simp) (by simp) rfl (by repeat' first | exact trivial | refine ⟨?_, ?_⟩) rfl rfl (by repeat' first | exact trivial | refine ⟨?_, ?_⟩) (fun _ => ⟨by simp [V.flat, V.flatA, V.flatC, D.flat], flat_nil⟩) ⟨rfl, rfl, rfl⟩
      · have h := if_bf h hc27
        refine aw_skip ?_
        refine aw_weak (weak_ofP [] (l := [(0, .d (.fl .f32 a_)), (1, .d (.fl .f32 b_))]) (objs := []) rfl (by simp) rfl (by repeat' first | exact trivial | refine ⟨?_, ?_⟩) ⟨rfl, trivial, rfl, trivial, trivial⟩) ?_
        exact hk21 () h
    · refine aw_seq ?_
      refine aw_region ?_
      refine awl_val hτ rfl rfl rfl ?_
      refine bnd_elim h fun x32 hx32 h => ?_
      refine awl_callP hτ false [] rfl rfl rfl (enterOk func122 rfl rfl) rfl rfl (by simp) ⟨trivial, trivial⟩ (by repeat' first | exact trivial | refine ⟨?_, ?_⟩) (impl_isNaN_ok n a_ hx32) ?_
      rintro r0 o0 n0 ⟨rfl, rfl, rfl⟩ -
      refine awl_val hτ rfl rfl rfl ?_
      refine awl_split 7 rfl (fun hb33 => ?_) (fun hb33 => ?_)
      · have h := if_bt h hb33
        refine awl_skip rfl rfl ?_
        refine awl_skip rfl rfl ?_
        refine awl_val hτ rfl rfl rfl ?_
        refine awl_nil ?_
        refine aw_weak (weak_ofP [] (l := [(0, .d (.fl .f32 a_)), (1, .d (.fl .f32 b_)), (10, .d (.bool true))]) (objs := []) rfl (by simp) rfl (by repeat' first | exact trivial | refine ⟨?_, ?_⟩) ⟨rfl, trivial, rfl, trivial, rfl, trivial, trivial⟩) ?_
        exact hk31 true h
      · have h := if_bf h hb33
        refine awl_val hτ rfl rfl rfl ?_
        refine bnd_elim h fun x34 hx34 h => ?_
        refine awl_callP hτ false [] rfl rfl rfl (enterOk func122 rfl rfl) rfl rfl (by simp) ⟨trivial, trivial⟩ (by repeat' first | exact trivial | refine ⟨?_, ?_⟩) (impl_isNaN_ok n b_ hx34) ?_
        rintro r0 o0 n0 ⟨rfl, rfl, rfl⟩ -
        refine awl_val hτ rfl rfl rfl ?_
        refine awl_nil ?_
        refine aw_weak (weak_ofP [] (l := [(0, .d (.fl .f32 a_)), (1, .d (.fl .f32 b_)), (10, .d (.bool x34))]) (objs := []) rfl (by simp) rfl (by repeat' first | exact trivial | refine ⟨?_, ?_⟩) ⟨rfl, trivial, rfl, trivial, rfl, trivial, trivial⟩) ?_
        exact hk31 x34 h
theorem impl_SameNumber_ok (n : Nat) (a_ : Nat) (b_ : Nat) {r : Bool} (h : m_impl_SameNumber n a_ b_ = some r) : ACall prog false 101 [.d (.fl .f32 a_), .d (.fl .f32 b_)] [] (fun v o new => v = .d (.bool r) ∧ o = [] ∧ new = []) := impl_SameNumber_ok_fr0 false n a_ b_ h
theorem impl_SameNumber_ok_fr (n : Nat) (a_ : Nat) (b_ : Nat) {r : Bool} (h : m_impl_SameNumber n a_ b_ = some r) : ACall prog true 101 [.d (.fl .f32 a_), .d (.fl .f32 b_)] [] (fun v o new => v = .d (.bool r) ∧ o = [] ∧ new = []) := impl_SameNumber_ok_fr0 true n a_ b_ h

def m_slices_EqualFunc_l1 (n : Nat) (s1_ : List Nat) (s2_ : List Nat) : Nat → Int → Option Bool
  | 0, _ => none
  | m18 + 1, v13 =>
    if v13 < (s1_.length : Int) then
      (getI s1_ v13).bind fun x24 =>
      (getI s2_ v13).bind fun x25 =>
      (m_impl_SameNumber n x24 x25).bind fun x26 =>
      if x26 = true then
        (m_slices_EqualFunc_l1 n s1_ s2_ m18) (w64 (v13 + (1 : Int)))
      else
        some false
    else
      some true
def m_slices_EqualFunc (n : Nat) (s1_ : List Nat) (s2_ : List Nat) : Option Bool :=
  if (s1_.length : Int) = (s2_.length : Int) then
    m_slices_EqualFunc_l1 n s1_ s2_ n (0 : Int)
  else
    some false
theorem slices_EqualFunc_ok_fr0 (fr : Bool) (n : Nat) (s1_ : List Nat) (s2_ : List Nat) {r : Bool} (h : m_slices_EqualFunc n s1_ s2_ = some r) : ACall prog fr 100 [.d (.sl false (s1_.map eNatf32)), .d (.sl false (s2_.map eNatf32)), .func 101 [] []] [] (fun v o new => v = .d (.bool r) ∧ o = [] ∧ new = []) := by
  refine acall_of_aw hτ func100 rfl (by simp) (by simp) ?_
  unfold m_slices_EqualFunc at h
  refine aw_seq ?_
  refine aw_region ?_
  refine awl_val hτ rfl rfl rfl ?_
  refine awl_nil ?_
  refine aw_seq ?_
  refine aw_seq ?_
  refine aw_region ?_
  refine awl_val hτ rfl rfl rfl ?_
  refine awl_val hτ (v := .d (.int .i64 (s1_.length : Int))) rfl rfl (Eq.trans rfl (or_len (f := eNatf32) s1_)) ?_
  refine awl_val hτ rfl rfl rfl ?_
  refine awl_val hτ (v := .d (.int .i64 (s2_.length : Int))) rfl rfl (Eq.trans rfl (or_len (f := eNatf32) s2_)) ?_
  refine awl_val hτ (v := .d (.bool (!(decide ((s1_.length : Int) = (s2_.length : Int)))))) rfl rfl (or_ine _ _) ?_
  refine awl_nil ?_
  refine aw_weak (weak_ofP [] (l := [(0, .d (.sl false (s1_.map eNatf32))), (1, .d (.sl false (s2_.map eNatf32))), (2, .func 101 [] []), (14, .d (.bool (!(decide ((s1_.length : Int) = (s2_.length : Int))))))]) (objs := []) rfl (by simp) rfl (by repeat' first | exact trivial | refine ⟨?_, ?_⟩) ⟨rfl, trivial, rfl, trivial, rfl, (by repeat' first | exact trivial | refine ⟨?_, ?_⟩), rfl, trivial, trivial⟩) ?_
  refine aw_cond rfl (fun hc9 => ?_) (fun hc9 => ?_)
  · have hc9 := not_t hc9
    have h := if_f h hc9
    refine aw_seq ?_
    refine aw_region ?_
    refine awl_val hτ rfl rfl rfl ?_
    refine awl_nil ?_
    refine aw_weak (weak_ofP [] (l := [(6, .d (.bool false))]) (objs := []) rfl (by simp) rfl (by repeat' first | exact trivial | refine ⟨?_, ?_⟩) ⟨rfl, trivial, trivial⟩) ?_
    refine aw_ret ?_
    have hr := Option.some.inj h
    subst hr
    exact ret_objs (.inr rfl) [] (objs' := []) (new := []) rfl (by simp) (by simp) rfl (by repeat' first | exact trivial | refine ⟨?_, ?_⟩) rfl rfl (by repeat' first | exact trivial | refine ⟨?_, ?_⟩) (fun _ => ⟨by simp [V.flat, V.flatA, V.flatC, D.flat], flat_nil⟩) ⟨rfl, rfl, rfl⟩
  · have hc9 := not_f hc9
    have h := if_t h hc9
    refine aw_skip ?_
    refine aw_seq ?_
    refine aw_seq ?_
    refine aw_region ?_
    refine awl_val hτ rfl rfl rfl ?_
    refine awl_val hτ (v := .d (.int .i64 (s1_.length : Int))) rfl rfl (Eq.trans rfl (or_len (f := eNatf32) s1_)) ?_
    refine awl_val hτ rfl rfl rfl ?_
    refine awl_nil ?_
    refine aw_block ?_
    refine aw_loop (ι := Nat × Int) (fun (m18, v13) => St.of [(1, .d (.sl false (s2_.map eNatf32))), (2, .func 101 [] []), (15, .d (.sl false (s1_.map eNatf32))), (16, .d (.int .i64 (s1_.length : Int))), (17, .d (.int .i64 v13))] [] f100.ntmps 0) (fun (m18, v13) => m_slices_EqualFunc_l1 n s1_ s2_ m18 v13 = some r) (fun x => x.1) (n, (0 : Int)) h (weak_ofP [] (l := [(1, .d (.sl false (s2_.map eNatf32))), (2, .func 101 [] []), (15, .d (.sl false (s1_.map eNatf32))), (16, .d (.int .i64 (s1_.length : Int))), (17, .d (.int .i64 (0 : Int)))]) (objs := []) rfl (by simp) rfl (by repeat' first | exact trivial | refine ⟨?_, ?_⟩) ⟨rfl, trivial, rfl, (by repeat' first | exact trivial | refine ⟨?_, ?_⟩), rfl, trivial, rfl, trivial, rfl, trivial, trivial⟩) ?_
    rintro ⟨m18, v13⟩ h
    replace h : m_slices_EqualFunc_l1 n s1_ s2_ m18 v13 = some r := h
    rcases m18 with _ | m18
    · rw [m_slices_EqualFunc_l1] at h; cases h
    rw [m_slices_EqualFunc_l1] at h
    refine aw_seq ?_
    refine aw_region ?_
    refine awl_val hτ rfl rfl rfl ?_
    refine awl_nil ?_
    refine aw_seq ?_
    refine aw_cond rfl (fun hc20 => ?_) (fun hc20 => ?_)
    · have h := if_t h hc20
      refine aw_skip ?_
      refine aw_seq ?_
      refine aw_block ?_
      refine aw_seq ?_
      refine aw_region ?_
      refine awl_val hτ rfl rfl rfl ?_
      refine bnd_elim h fun x24 hx24 h => ?_
      refine awl_elem hτ rfl rfl rfl (getI_some hx24).1 (map_getI hx24) rfl ?_
      refine awl_val hτ rfl rfl rfl ?_
      refine awl_val hτ rfl rfl rfl ?_
      refine awl_val hτ rfl rfl rfl ?_
      refine awl_nil ?_
      refine aw_seq ?_
      refine aw_weak (weak_ofP [] (l := [(1, .d (.sl false (s2_.map eNatf32))), (2, .func 101 [] []), (7, .d (.int .i64 v13)), (8, .d (.fl .f32 x24)), (15, .d (.sl false (s1_.map eNatf32))), (16, .d (.int .i64 (s1_.length : Int))), (17, .d (.int .i64 v13))]) (objs := []) rfl (by simp) rfl (by repeat' first | exact trivial | refine ⟨?_, ?_⟩) ⟨rfl, trivial, rfl, (by repeat' first | exact trivial | refine ⟨?_, ?_⟩), rfl, trivial, rfl, trivial, rfl, trivial, rfl, trivial, rfl, trivial, trivial⟩) ?_
      refine aw_region ?_
      refine awl_val hτ rfl rfl rfl ?_
      refine awl_val hτ rfl rfl rfl ?_
      refine bnd_elim h fun x25 hx25 h => ?_
      refine awl_elem hτ rfl rfl rfl (getI_some hx25).1 (map_getI hx25) rfl ?_
      refine awl_val hτ rfl rfl rfl ?_
      refine awl_val hτ rfl rfl rfl ?_
      refine awl_nil ?_
      refine aw_seq ?_
      refine aw_region ?_
      refine awl_val hτ rfl rfl rfl ?_
      refine awl_val hτ rfl rfl rfl ?_
      refine awl_val hτ rfl rfl rfl ?_
      refine bnd_elim h fun x26 hx26 h => ?_
      refine awl_callP hτ false [] rfl rfl rfl (enterOk func101 rfl rfl) rfl rfl (by simp) ⟨trivial, trivial, trivial⟩ (by repeat' first | exact trivial | refine ⟨?_, ?_⟩) (impl_SameNumber_ok n x24 x25 hx26) ?_
      rintro r0 o0 n0 ⟨rfl, rfl, rfl⟩ -
      refine awl_val hτ rfl rfl rfl ?_
      refine awl_nil ?_
      refine aw_weak (weak_ofP [] (l := [(1, .d (.sl false (s2_.map eNatf32))), (2, .func 101 [] []), (15, .d (.sl false (s1_.map eNatf32))), (16, .d (.int .i64 (s1_.length : Int))), (17, .d (.int .i64 v13)), (30, .d (.bool (!x26)))]) (objs := []) rfl (by simp) rfl (by repeat' first | exact trivial | refine ⟨?_, ?_⟩) ⟨rfl, trivial, rfl, (by repeat' first | exact trivial | refine ⟨?_, ?_⟩), rfl, trivial, rfl, trivial, rfl, trivial, rfl, trivial, trivial⟩) ?_
      refine aw_cond rfl (fun hc27 => ?_) (fun hc27 => ?_)
      · have hc27 := not_t hc27
        have h := if_bf h hc27
        refine aw_seq ?_
        refine aw_region ?_
        refine awl_val hτ rfl rfl rfl ?_
        refine awl_nil ?_
        refine aw_weak (weak_ofP [] (l := [(6, .d (.bool false))]) (objs := []) rfl (by simp) rfl (by repeat' first | exact trivial | refine ⟨?_, ?_⟩) ⟨rfl, trivial, trivial⟩) ?_
        refine aw_ret ?_
        have hr := Option.some.inj h
        subst hr
        exact ret_objs (.inr rfl) [] (objs' := []) (new := []) rfl (by simp) (by simp) rfl (by repeat' first | exact trivial | refine ⟨?_, ?_⟩) rfl rfl (by repeat' first | exact trivial | refine ⟨?_, ?_⟩) (fun _ => ⟨by simp [V.flat, V.flatA, V.flatC, D.flat], flat_nil⟩) ⟨rfl, rfl, rfl⟩
      · have hc27 := not_f hc27
        have h := if_bt h hc27
        refine aw_skip ?_
        refine aw_region ?_
        refine awl_val hτ rfl rfl rfl ?_
        refine awl_val hτ rfl rfl rfl ?_
        refine awl_nil ?_
        exact ⟨(m18, (w64 (v13 + (1 : Int)))), h, Nat.lt_succ_self m18, (weak_ofP [] (l := [(1, .d (.sl false (s2_.map eNatf32))), (2, .func 101 [] []), (15, .d (.sl false (s1_.map eNatf32))), (16, .d (.int .i64 (s1_.length : Int))), (17, .d (.int .i64 (w64 (v13 + (1 : Int)))))]) (objs := []) rfl (by simp) rfl (by repeat' first | exact trivial | refine ⟨?_, ?_⟩) ⟨rfl, trivial, rfl, (by repeat' first | exact trivial | refine ⟨?_, ?_⟩), rfl, trivial, rfl, trivial, rfl, trivial, trivial⟩)⟩
    · have h := if_f h hc20
      refine aw_exit ?_
      refine aw_seq ?_
      refine aw_region ?_
      refine awl_val hτ rfl rfl rfl ?_
      refine awl_nil ?_
      refine aw_weak (weak_ofP [] (l := [(6, .d (.bool true))]) (objs := []) rfl (by simp) rfl (by repeat' first | exact trivial | refine ⟨?_, ?_⟩) ⟨rfl, trivial, trivial⟩) ?_
      refine aw_ret ?_
      have hr := Option.some.inj h
      subst hr
      exact ret_objs (.inr rfl) [] (objs' := []) (new := []) rfl (by simp) (by simp) rfl (by repeat' first | exact trivial | refine ⟨?_, ?_⟩) rfl rfl (by repeat' first | exact trivial | refine ⟨?_, ?_⟩) (fun _ => ⟨by simp [V.flat, V.flatA, V.flatC, D.flat], flat_nil⟩) ⟨rfl, rfl, rfl⟩
theorem slices_EqualFunc_ok (n : Nat) (s1_ : List Nat) (s2_ : List Nat) {r : Bool} (h : m_slices_EqualFunc n s1_ s2_ = some r) : ACall prog false 100 [.d (.sl false (s1_.map eNatf32)), .d (.sl false (s2_.map eNatf32)), .func 101 [] []] [] (fun v o new => v = .d (.bool r) ∧ o = [] ∧ new = []) := slices_EqualFunc_ok_fr0 false n s1_ s2_ h
theorem slices_EqualFunc_ok_fr (n : Nat) (s1_ : List Nat) (s2_ : List Nat) {r : Bool} (h : m_slices_EqualFunc n s1_ s2_ = some r) : ACall prog true 100 [.d (.sl false (s1_.map eNatf32)), .d (.sl false (s2_.map eNatf32)), .func 101 [] []] [] (fun v o new => v = .d (.bool r) ∧ o = [] ∧ new = []) := slices_EqualFunc_ok_fr0 true n s1_ s2_ h

def m_impl_sameList (n : Nat) (a_ : List Nat) (b_ : List Nat) : Option Bool :=
  (m_slices_EqualFunc n a_ b_).bind fun x2 =>
  some x2
theorem impl_sameList_ok_fr0 (fr : Bool) (n : Nat) (a_ : List Nat) (b_ : List Nat) {r : Bool} (h : m_impl_sameList n a_ b_ = some r) : ACall prog fr 73 [.d (.sl false (a_.map eNatf32)), .d (.sl false (b_.map eNatf32))] [] (fun v o new => v = .d (.bool r) ∧ o = [] ∧ new = []) := by
  refine acall_of_aw hτ func73 rfl (by simp) (by simp) ?_
  unfold m_impl_sameList at h
  refine aw_seq ?_
  refine aw_region ?_
  refine awl_val hτ rfl rfl rfl ?_
  refine awl_nil ?_
  refine aw_seq ?_
  refine aw_region ?_
  refine awl_val hτ rfl rfl rfl ?_
  refine awl_val hτ rfl rfl rfl ?_
  refine bnd_elim h fun x2 hx2 h => ?_
  refine awl_callP hτ false [] rfl rfl rfl (enterOk func100 rfl rfl) rfl rfl (by simp) ⟨trivial, trivial, (by repeat' first | exact trivial | refine ⟨?_, ?_⟩), trivial⟩ (by repeat' first | exact trivial | refine ⟨?_, ?_⟩) (slices_EqualFunc_ok n a_ b_ hx2) ?_
  rintro r0 o0 n0 ⟨rfl, rfl, rfl⟩ -
  refine awl_val hτ rfl rfl rfl ?_
  refine awl_nil ?_
  refine aw_weak (weak_ofP [] (l := [(4, .d (.bool x2))]) (objs := []) rfl (by simp) rfl (by repeat' first | exact trivial | refine ⟨?_, ?_⟩) ⟨rfl, trivial, trivial⟩) ?_
  refine aw_ret ?_
  have hr := Option.some.inj h
  subst hr
  exact ret_objs (.inr rfl) [] (objs' := []) (new := []) rfl (by simp) (by simp) rfl (by repeat' first | exact trivial | refine ⟨?_, ?_⟩) rfl rfl (by repeat' first | exact trivial | refine ⟨?_, ?_⟩) (fun _ => ⟨by simp [V.flat, V.flatA, V.flatC, D.flat], flat_nil⟩) ⟨rfl, rfl, rfl⟩
theorem impl_sameList_ok (n : Nat) (a_ : List Nat) (b_ : List Nat) {r : Bool} (h : m_impl_sameList n a_ b_ = some r) : ACall prog false 73 [.d (.sl false (a_.map eNatf32)), .d (.sl false (b_.map eNatf32))] [] (fun v o new => v = .d (.bool r) ∧ o = [] ∧ new = []) := impl_sameList_ok_fr0 false n a_ b_ h
theorem impl_sameList_ok_fr (n : Nat) (a_ : List Nat) (b_ : List Nat) {r : Bool} (h : m_impl_sameList n a_ b_ = some r) : ACall prog true 73 [.d (.sl false (a_.map eNatf32)), .d (.sl false (b_.map eNatf32))] [] (fun v o new => v = .d (.bool r) ∧ o = [] ∧ new = []) := impl_sameList_ok_fr0 true n a_ b_ h

def m_impl_SameCurve (n : Nat) (a_ : SCurve) (b_ : SCurve) : Option Bool :=
  (m_impl_sameList n a_.Currents b_.Currents).bind fun x5 =>
  if x5 = true then
    (m_impl_sameList n a_.Times b_.Times).bind fun x7 =>
    some x7
  else
    some false
theorem impl_SameCurve_ok_fr0 (fr : Bool) (n : Nat) (a_ : SCurve) (b_ : SCurve) {r : Bool} (h : m_impl_SameCurve n a_ b_ = some r) : ACall prog fr 34 [.agg [.d (.sl false (a_.Currents.map eNatf32)), .d (.sl false (a_.Times.map eNatf32))], .agg [.d (.sl false (b_.Currents.map eNatf32)), .d (.sl false (b_.Times.map eNatf32))]] [] (fun v o new => v = .d (.bool r) ∧ o = [] ∧ new = []) := by
  refine acall_of_aw hτ func34 rfl (by simp) (by simp) ?_
  unfold m_impl_SameCurve at h
  refine aw_seq ?_
  refine aw_region ?_
  refine awl_valH hτ rfl rfl rfl ?_
  refine awl_valH hτ rfl rfl rfl ?_
  refine awl_val hτ rfl rfl rfl ?_
  refine awl_nil ?_
  refine aw_seq ?_
  refine aw_region ?_
  refine awl_val hτ rfl rfl rfl ?_
  refine awl_val hτ rfl rfl rfl ?_
  refine awl_val hτ rfl rfl rfl ?_
  refine awl_val hτ rfl rfl rfl ?_
  refine bnd_elim h fun x5 hx5 h => ?_
  refine awl_callP hτ false [] rfl rfl rfl (enterOk func73 rfl rfl) rfl rfl (by simp) ⟨trivial, trivial, trivial⟩ (by repeat' first | exact trivial | refine ⟨?_, ?_⟩) (impl_sameList_ok n a_.Currents b_.Currents hx5) ?_
  rintro r0 o0 n0 ⟨rfl, rfl, rfl⟩ -
  refine awl_val hτ rfl rfl rfl ?_
  refine awl_split 10 rfl (fun hb6 => ?_) (fun hb6 => ?_)
  · have h := if_bt h hb6
    refine awl_val hτ rfl rfl rfl ?_
    refine awl_val hτ rfl rfl rfl ?_
    refine awl_val hτ rfl rfl rfl ?_
    refine awl_weak (weak_ofP [1] (l := [(4, .d (.bool false)), (10, .d (.bool true)), (12, .d (.sl false (a_.Times.map eNatf32))), (13, .ptr 0 1)]) (objs := [.box [.d (.sl false (b_.Currents.map eNatf32)), .d (.sl false (b_.Times.map eNatf32))]]) rfl (by simp) rfl (by repeat' first | exact trivial | refine ⟨?_, ?_⟩) ⟨rfl, trivial, rfl, trivial, rfl, trivial, rfl, trivial, trivial⟩) ?_
    refine awl_val hτ rfl rfl rfl ?_
    refine bnd_elim h fun x7 hx7 h => ?_
    refine awl_callP hτ false [] rfl rfl rfl (enterOk func73 rfl rfl) rfl rfl (by simp) ⟨trivial, trivial, trivial⟩ (by repeat' first | exact trivial | refine ⟨?_, ?_⟩) (impl_sameList_ok n a_.Times b_.Times hx7) ?_
    rintro r0 o0 n0 ⟨rfl, rfl, rfl⟩ -
    refine awl_val hτ rfl rfl rfl ?_
    refine awl_val hτ rfl rfl rfl ?_
    refine awl_nil ?_
    refine aw_weak (weak_ofP [] (l := [(4, .d (.bool x7))]) (objs := []) rfl (by simp) rfl (by repeat' first | exact trivial | refine ⟨?_, ?_⟩) ⟨rfl, trivial, trivial⟩) ?_
    refine aw_ret ?_
    have hr := Option.some.inj h
    subst hr
    exact ret_objs (.inr rfl) [] (objs' := []) (new := []) rfl (by simp) (by simp) rfl (by repeat' first | exact trivial | refine ⟨?_, ?_⟩) rfl rfl (by repeat' first | exact trivial | refine ⟨?_, ?_⟩) (fun _ => ⟨by simp [V.flat, V.flatA, V.flatC, D.flat], flat_nil⟩) ⟨rfl, rfl, rfl⟩
  · have h := if_bf h hb6
    refine awl_skip rfl rfl ?_
    refine awl_skip rfl rfl ?_
    refine awl_skip rfl rfl ?_
    refine awl_weak (weak_ofP [] (l := [(4, .d (.bool false)), (10, .d (.bool false)), (12, .und), (13, .und)]) (objs := []) rfl (by simp) rfl (by repeat' first | exact trivial | refine ⟨?_, ?_⟩) ⟨rfl, trivial, rfl, trivial, rfl, trivial, rfl, trivial, trivial⟩) ?_
    refine awl_skip rfl rfl ?_
    refine awl_skip rfl rfl ?_
    refine awl_val hτ rfl rfl rfl ?_
    refine awl_val hτ rfl rfl rfl ?_
    refine awl_nil ?_
    refine aw_weak (weak_ofP [] (l := [(4, .d (.bool false))]) (objs := []) rfl (by simp) rfl (by repeat' first | exact trivial | refine ⟨?_, ?_⟩) ⟨rfl, trivial, trivial⟩) ?_
    refine aw_ret ?_
    have hr := Option.some.inj h
    subst hr
    exact ret_objs (.inr rfl) [] (objs' := []) (new := []) rfl (by simp) (by simp) rfl (by repeat' first | exact trivial | refine ⟨?_, ?_⟩) rfl rfl (by repeat' first | exact trivial | refine ⟨?_, ?_⟩) (fun _ => ⟨by simp [V.flat, V.flatA, V.flatC, D.flat], flat_nil⟩) ⟨rfl, rfl, rfl⟩
theorem impl_SameCurve_ok (n : Nat) (a_ : SCurve) (b_ : SCurve) {r : Bool} (h : m_impl_SameCurve n a_ b_ = some r) : ACall prog false 34 [.agg [.d (.sl false (a_.Currents.map eNatf32)), .d (.sl false (a_.Times.map eNatf32))], .agg [.d (.sl false (b_.Currents.map eNatf32)), .d (.sl false (b_.Times.map eNatf32))]] [] (fun v o new => v = .d (.bool r) ∧ o = [] ∧ new = []) := impl_SameCurve_ok_fr0 false n a_ b_ h
theorem impl_SameCurve_ok_fr (n : Nat) (a_ : SCurve) (b_ : SCurve) {r : Bool} (h : m_impl_SameCurve n a_ b_ = some r) : ACall prog true 34 [.agg [.d (.sl false (a_.Currents.map eNatf32)), .d (.sl false (a_.Times.map eNatf32))], .agg [.d (.sl false (b_.Currents.map eNatf32)), .d (.sl false (b_.Times.map eNatf32))]] [] (fun v o new => v = .d (.bool r) ∧ o = [] ∧ new = []) := impl_SameCurve_ok_fr0 true n a_ b_ h

def m_laws_FnCurves_j2 (n : Nat) (x61 : SCurve) (x77 : Nat × Bool) (x78 : Nat × Bool) (x79 : SCurve × Bool) (x80 : Nat × Bool) (x81 : Nat × Bool) (x82 : Nat × Bool) : Option Bool :=
  if x77.2 = true then
    if x78.2 = true then
      if x79.2 = true then
        if x80.2 = true then
          if x81.2 = true then
            some false
          else
            if x82.2 = true then
              if (fcmp .eql .f32 x82.1 (0 : Nat)) = true then
                (m_impl_ValidCurve n (SCurve.mk x61.Currents x61.Times)).bind fun x96 =>
                if x96 = true then
                  (m_impl_SameCurve n (SCurve.mk x61.Currents x61.Times) (SCurve.mk x61.Currents x61.Times)).bind fun x98 =>
                  if x98 = true then
                    if (fcmp .leq .f32 x78.1 (farith .add .f32 x77.1 (981668463 : Nat))) = true then
                      (getI x61.Times (0 : Int)).bind fun x101 =>
                      if (fcmp .leq .f32 x77.1 (farith .add .f32 x101 (981668463 : Nat))) = true then
                        (getI x61.Times (w64 ((x61.Currents.length : Int) - (1 : Int)))).bind fun x103 =>
                        if (fcmp .geq .f32 x78.1 (farith .sub .f32 x103 (981668463 : Nat))) = true then
                          some (fcmp .eql .f32 x80.1 (farith .mul .f32 (1073741824 : Nat) x77.1))
                        else
                          some false
                      else
                        some false
                    else
                      some false
                  else
                    some false
                else
                  some false
              else
                some false
            else
              some false
        else
          some false
      else
        some false
    else
      some false
  else
    some false
def m_laws_FnCurves_j3 (n : Nat) (x61 : SCurve) (x77 : Nat × Bool) (x78 : Nat × Bool) (x79 : SCurve × Bool) (x80 : Nat × Bool) (x81 : Nat × Bool) (x82 : Nat × Bool) (v110 : Bool) : Option Bool :=
  if v110 = true then
    some false
  else
    m_laws_FnCurves_j2 n x61 x77 x78 x79 x80 x81 x82
def m_laws_FnCurves_j1 (n : Nat) (more_ : List Int) (x61 : SCurve) : Option Bool :=
  (getI x61.Currents (0 : Int)).bind fun x74 =>
  (m_laws_b10At n more_ (0 : Int) (64 : Int)).bind fun x75 =>
  (m_laws_b10At n more_ (1 : Int) (64 : Int)).bind fun x76 =>
  (m_impl_TimeAt n (SCurve.mk x61.Currents x61.Times) (farith .add .f32 x74 (farith .quo .f32 (FloatKind.nearest .f32 x75) (1090519040 : Nat)))).bind fun x77 =>
  (m_impl_TimeAt n (SCurve.mk x61.Currents x61.Times) (farith .add .f32 (farith .add .f32 x74 (farith .quo .f32 (FloatKind.nearest .f32 x75) (1090519040 : Nat))) (farith .quo .f32 (FloatKind.nearest .f32 x76) (1090519040 : Nat)))).bind fun x78 =>
  (m_impl_ScaleCurve n (SCurve.mk x61.Currents x61.Times) (1073741824 : Nat) (1073741824 : Nat)).bind fun x79 =>
  (m_impl_TimeAt n (SCurve.mk x79.1.Currents x79.1.Times) (farith .mul .f32 (1073741824 : Nat) (farith .add .f32 x74 (farith .quo .f32 (FloatKind.nearest .f32 x75) (1090519040 : Nat))))).bind fun x80 =>
  (m_impl_TimeAt n (SCurve.mk x61.Currents x61.Times) (farith .quo .f32 x74 (1073741824 : Nat))).bind fun x81 =>
  (m_impl_MarginAt n (SCurve.mk x61.Currents x61.Times) (SCurve.mk x61.Currents x61.Times) (farith .add .f32 x74 (farith .quo .f32 (FloatKind.nearest .f32 x75) (1090519040 : Nat)))).bind fun x82 =>
  (m_impl_GradeOf n (SCurve.mk x61.Currents x61.Times) (SCurve.mk x79.1.Currents x79.1.Times) (farith .add .f32 x74 (farith .quo .f32 (FloatKind.nearest .f32 x75) (1090519040 : Nat))) (farith .add .f32 (farith .add .f32 x74 (farith .quo .f32 (FloatKind.nearest .f32 x75) (1090519040 : Nat))) (farith .quo .f32 (FloatKind.nearest .f32 x76) (1090519040 : Nat))) (5 : Int)).bind fun x83 =>
  (m_spec_GradeOf n (SCurve.mk x61.Currents x61.Times) (SCurve.mk x79.1.Currents x79.1.Times) (farith .add .f32 x74 (farith .quo .f32 (FloatKind.nearest .f32 x75) (1090519040 : Nat))) (farith .add .f32 (farith .add .f32 x74 (farith .quo .f32 (FloatKind.nearest .f32 x75) (1090519040 : Nat))) (farith .quo .f32 (FloatKind.nearest .f32 x76) (1090519040 : Nat))) (5 : Int)).bind fun x84 =>
  if (x83.2 == x84.2) = true then
    if x83.2 = true then
      m_laws_FnCurves_j3 n x61 x77 x78 x79 x80 x81 x82 (fcmp .lss .f32 x83.1 (3129152111 : Nat))
    else
      m_laws_FnCurves_j3 n x61 x77 x78 x79 x80 x81 x82 false
  else
    m_laws_FnCurves_j3 n x61 x77 x78 x79 x80 x81 x82 true
def m_laws_FnCurves_j5 (n : Nat) (k129 : Int → Option Bool) (v121 : Int) : Option Bool :=
  k129 (w64 (v121 + (1 : Int)))
def m_laws_FnCurves_j6 (n : Nat) (k129 : Int → Option Bool) (v121 : Int) (v142 : Bool) : Option Bool :=
  if v142 = true then
    some false
  else
    m_laws_FnCurves_j5 n k129 v121
def m_laws_FnCurves_l4 (n : Nat) (more_ : List Int) (x61 : SCurve) : Nat → Int → Option Bool
  | 0, _ => none
  | m128 + 1, v121 =>
    if v121 < (x61.Currents.length : Int) then
      (getI x61.Currents v121).bind fun x137 =>
      (m_impl_TimeAt n (SCurve.mk x61.Currents x61.Times) x137).bind fun x138 =>
      if x138.2 = true then
        (getI x61.Times v121).bind fun x146 =>
        m_laws_FnCurves_j6 n (m_laws_FnCurves_l4 n more_ x61 m128) v121 (fcmp .neq .f32 x138.1 x146)
      else
        m_laws_FnCurves_j6 n (m_laws_FnCurves_l4 n more_ x61 m128) v121 true
    else
      m_laws_FnCurves_j1 n more_ x61
def m_laws_FnCurves (n : Nat) (code_ : List Int) (more_ : List Int) : Option Bool :=
  (m_laws_b10Long n code_ more_).bind fun x59 =>
  if x59 = true then
    some true
  else
    (m_spec_B10Curve n code_).bind fun x61 =>
    m_laws_FnCurves_l4 n more_ x61 n (0 : Int)
theorem laws_FnCurves_ok_fr0 (fr : Bool) (n : Nat) (code_ : List Int) (more_ : List Int) {r : Bool} (h : m_laws_FnCurves n code_ more_ = some r) : ACall prog fr 5 [.d (.sl false (code_.map eIntu8)), .d (.sl false (more_.map eIntu8))] [] (fun v o new => v = .d (.bool r) ∧ o = [] ∧ new = []) := by
  refine acall_of_aw hτ func5 rfl (by simp) (by simp) ?_
  unfold m_laws_FnCurves at h
  refine aw_seq ?_
  refine aw_region ?_
  refine awl_val hτ rfl rfl rfl ?_
  refine awl_nil ?_
  refine aw_seq ?_
  refine aw_seq ?_
  refine aw_region ?_
  refine awl_val hτ rfl rfl rfl ?_
  refine awl_val hτ rfl rfl rfl ?_
  refine bnd_elim h fun x59 hx59 h => ?_
  refine awl_callP hτ false [] rfl rfl rfl (enterOk func8 rfl rfl) rfl rfl (by simp) ⟨trivial, trivial, trivial⟩ (by repeat' first | exact trivial | refine ⟨?_, ?_⟩) (laws_b10Long_ok n code_ more_ hx59) ?_
  rintro r0 o0 n0 ⟨rfl, rfl, rfl⟩ -
  refine awl_nil ?_
  refine aw_cond rfl (fun hc60 => ?_) (fun hc60 => ?_)
  · have h := if_bt h hc60
    refine aw_seq ?_
    refine aw_region ?_
    refine awl_val hτ rfl rfl rfl ?_
    refine awl_nil ?_
    refine aw_weak (weak_ofP [] (l := [(4, .d (.bool true))]) (objs := []) rfl (by simp) rfl (by repeat' first | exact trivial | refine ⟨?_, ?_⟩) ⟨rfl, trivial, trivial⟩) ?_
    refine aw_ret ?_
    have hr := Option.some.inj h
    subst hr
    exact ret_objs (.inr rfl) [] (objs' := []) (new := []) rfl (by simp) (by simp) rfl (by repeat' first | exact trivial | refine ⟨?_, ?_⟩) rfl rfl (by repeat' first | exact trivial | refine ⟨?_, ?_⟩) (fun _ => ⟨by simp [V.flat, V.flatA, V.flatC, D.flat], flat_nil⟩) ⟨rfl, rfl, rfl⟩
  · have h := if_bf h hc60
    refine aw_skip ?_
    refine aw_seq ?_
    refine aw_region ?_
    refine awl_val hτ rfl rfl rfl ?_
    refine bnd_elim h fun x61 hx61 h => ?_
    refine awl_callP hτ false [] rfl rfl rfl (enterOk func27 rfl rfl) rfl rfl (by simp) ⟨trivial, trivial⟩ (by repeat' first | exact trivial | refine ⟨?_, ?_⟩) (spec_B10Curve_ok n code_ hx61) ?_
    rintro r0 o0 n0 ⟨rfl, rfl, rfl⟩ -
    refine awl_valH hτ rfl rfl rfl ?_
    refine awl_valH hτ rfl rfl rfl ?_
    refine awl_nil ?_
    refine aw_seq ?_
    refine aw_weak (weak_ofP [2, 0, 1] (l := [(1, .d (.sl false (more_.map eIntu8))), (5, .ptr 0 0)]) (objs := [.box [.row 1 x61.Currents.length 0 x61.Currents.length, .row 2 x61.Times.length 0 x61.Times.length], .row 1 (x61.Currents.map eNatf32), .row 1 (x61.Times.map eNatf32)]) rfl (by simp) rfl (by repeat' first | exact trivial | refine ⟨?_, ?_⟩) ⟨rfl, trivial, rfl, trivial, trivial⟩) ?_
    refine aw_region ?_
    refine awl_val hτ rfl rfl rfl ?_
    refine awl_val hτ rfl rfl rfl ?_
    refine awl_need hτ rfl rfl rfl (len_map _) ?_
    refine awl_val hτ rfl rfl rfl ?_
    refine awl_nil ?_
    refine aw_hk1 (ι := Unit) (fun _ => St.of [(1, .d (.sl false (more_.map eIntu8))), (5, .ptr 0 0), (6, .d (.int .i64 (x61.Currents.length : Int)))] [.box [.row 1 x61.Currents.length 0 x61.Currents.length, .row 2 x61.Times.length 0 x61.Times.length], .row 1 (x61.Currents.map eNatf32), .row 1 (x61.Times.map eNatf32)] f5.ntmps 0) (fun _ => m_laws_FnCurves_j1 n more_ x61 = some r) ?_ (fun hk115 => ?_)
    · rintro ⟨⟩ h
      replace h : m_laws_FnCurves_j1 n more_ x61 = some r := h
      unfold m_laws_FnCurves_j1 at h
      refine aw_seq ?_
      refine any_start ?_
      refine any_val hτ [0] 0 rfl rfl rfl rfl rfl ?_
      refine any_val hτ [0] 1 rfl rfl rfl rfl rfl ?_
      refine bnd_elim h fun x74 hx74 h => ?_
      refine any_need hτ [1] 2 rfl rfl rfl rfl rfl (row_need hx74) ?_
      refine any_elem hτ [1] 3 rfl rfl rfl rfl rfl (len_map _) (row_get hx74) rfl ?_
      refine any_val hτ [] 4 rfl rfl rfl rfl rfl ?_
      refine bnd_elim h fun x75 hx75 h => ?_
      refine any_callP hτ false [] [0, 1, 2] 5 rfl rfl rfl rfl (enterOk func9 rfl rfl) rfl rfl (by simp) ⟨trivial, trivial, trivial, trivial⟩ (by repeat' first | exact trivial | refine ⟨?_, ?_⟩) (laws_b10At_ok n more_ (0 : Int) (64 : Int) hx75) ⟨rfl, rfl, rfl, trivial⟩ ?_
      refine any_val hτ [] 6 rfl rfl rfl rfl rfl ?_
      refine any_val hτ [] 7 rfl rfl rfl rfl rfl ?_
      refine any_val hτ [] 8 rfl rfl rfl rfl rfl ?_
      refine any_val hτ [] 9 rfl rfl rfl rfl rfl ?_
      refine any_done mixed (by kernel_rfl) ?_
      refine aw_seq ?_
      refine aw_weak (weak_ofP [0, 1, 2] (l := [(1, .d (.sl false (more_.map eIntu8))), (5, .ptr 0 0), (6, .d (.int .i64 (x61.Currents.length : Int))), (10, .d (.fl .f32 (farith .add .f32 x74 (farith .quo .f32 (FloatKind.nearest .f32 x75) (1090519040 : Nat)))))]) (objs := [.box [.row 1 x61.Currents.length 0 x61.Currents.length, .row 2 x61.Times.length 0 x61.Times.length], .row 1 (x61.Currents.map eNatf32), .row 1 (x61.Times.map eNatf32)]) rfl (by simp) rfl (by repeat' first | exact trivial | refine ⟨?_, ?_⟩) ⟨rfl, trivial, rfl, trivial, rfl, trivial, rfl, trivial, trivial⟩) ?_
      refine aw_region ?_
      refine awl_val hτ rfl rfl rfl ?_
      refine awl_val hτ rfl rfl rfl ?_
      refine bnd_elim h fun x76 hx76 h => ?_
      refine awl_callP hτ false [] rfl rfl rfl (enterOk func9 rfl rfl) rfl rfl (by simp) ⟨trivial, trivial, trivial, trivial⟩ (by repeat' first | exact trivial | refine ⟨?_, ?_⟩) (laws_b10At_ok n more_ (1 : Int) (64 : Int) hx76) ?_
      rintro r0 o0 n0 ⟨rfl, rfl, rfl⟩ -
      refine awl_val hτ rfl rfl rfl ?_
      refine awl_val hτ rfl rfl rfl ?_
      refine awl_val hτ rfl rfl rfl ?_
      refine awl_val hτ rfl rfl rfl ?_
      refine awl_nil ?_
      refine aw_seq ?_
      refine aw_weak (weak_ofP [0, 1, 2] (l := [(5, .ptr 0 0), (6, .d (.int .i64 (x61.Currents.length : Int))), (10, .d (.fl .f32 (farith .add .f32 x74 (farith .quo .f32 (FloatKind.nearest .f32 x75) (1090519040 : Nat))))), (11, .d (.fl .f32 (farith .add .f32 (farith .add .f32 x74 (farith .quo .f32 (FloatKind.nearest .f32 x75) (1090519040 : Nat))) (farith .quo .f32 (FloatKind.nearest .f32 x76) (1090519040 : Nat)))))]) (objs := [.box [.row 1 x61.Currents.length 0 x61.Currents.length, .row 2 x61.Times.length 0 x61.Times.length], .row 1 (x61.Currents.map eNatf32), .row 1 (x61.Times.map eNatf32)]) rfl (by simp) rfl (by repeat' first | exact trivial | refine ⟨?_, ?_⟩) ⟨rfl, trivial, rfl, trivial, rfl, trivial, rfl, trivial, trivial⟩) ?_
      refine aw_region ?_
      refine awl_val hτ rfl rfl rfl ?_
      refine awl_val hτ rfl rfl rfl ?_
      refine awl_weak (weak_ofP [0, 1, 2] (l := [(5, .ptr 0 0), (6, .d (.int .i64 (x61.Currents.length : Int))), (10, .d (.fl .f32 (farith .add .f32 x74 (farith .quo .f32 (FloatKind.nearest .f32 x75) (1090519040 : Nat))))), (11, .d (.fl .f32 (farith .add .f32 (farith .add .f32 x74 (farith .quo .f32 (FloatKind.nearest .f32 x75) (1090519040 : Nat))) (farith .quo .f32 (FloatKind.nearest .f32 x76) (1090519040 : Nat))))), (80, .agg [.row 1 x61.Currents.length 0 x61.Currents.length, .row 2 x61.Times.length 0 x61.Times.length]), (81, .d (.fl .f32 (farith .add .f32 x74 (farith .quo .f32 (FloatKind.nearest .f32 x75) (1090519040 : Nat)))))]) (objs := [.box [.row 1 x61.Currents.length 0 x61.Currents.length, .row 2 x61.Times.length 0 x61.Times.length], .row 1 (x61.Currents.map eNatf32), .row 1 (x61.Times.map eNatf32)]) rfl (by simp) rfl (by repeat' first | exact trivial | refine ⟨?_, ?_⟩) ⟨rfl, trivial, rfl, trivial, rfl, trivial, rfl, trivial, rfl, (by repeat' first | exact trivial | refine ⟨?_, ?_⟩), rfl, trivial, trivial⟩) ?_
      refine bnd_elim h fun x77 hx77 h => ?_
      refine awl_callP hτ true [] rfl rfl rfl (enterOk func28 rfl rfl) (mapO_cons (exV_agg (mapO_cons (exC_view (f := eNatf32) x61.Currents rfl rfl rfl) (mapO_cons (exC_view (f := eNatf32) x61.Times rfl rfl rfl) mapO_nil))) (mapO_cons rfl mapO_nil)) rfl (by simp) ⟨⟨(exP_view (f := eNatf32) x61.Currents rfl rfl rfl), (exP_view (f := eNatf32) x61.Times rfl rfl rfl)⟩, trivial, trivial⟩ (by repeat' first | exact trivial | refine ⟨?_, ?_⟩) (impl_TimeAt_ok_fr n (SCurve.mk x61.Currents x61.Times) (farith .add .f32 x74 (farith .quo .f32 (FloatKind.nearest .f32 x75) (1090519040 : Nat))) hx77) ?_
      rintro r0 o0 n0 ⟨rfl, rfl, rfl⟩ -
      refine awl_val hτ rfl rfl rfl ?_
      refine awl_val hτ rfl rfl rfl ?_
      refine awl_val hτ rfl rfl rfl ?_
      refine awl_val hτ rfl rfl rfl ?_
      refine awl_val hτ rfl rfl rfl ?_
      refine awl_nil ?_
      refine aw_seq ?_
      refine aw_weak (weak_ofP [0, 1, 2] (l := [(5, .ptr 0 0), (6, .d (.int .i64 (x61.Currents.length : Int))), (10, .d (.fl .f32 (farith .add .f32 x74 (farith .quo .f32 (FloatKind.nearest .f32 x75) (1090519040 : Nat))))), (11, .d (.fl .f32 (farith .add .f32 (farith .add .f32 x74 (farith .quo .f32 (FloatKind.nearest .f32 x75) (1090519040 : Nat))) (farith .quo .f32 (FloatKind.nearest .f32 x76) (1090519040 : Nat))))), (12, .d (.fl .f32 x77.1)), (13, .d (.bool x77.2))]) (objs := [.box [.row 1 x61.Currents.length 0 x61.Currents.length, .row 2 x61.Times.length 0 x61.Times.length], .row 1 (x61.Currents.map eNatf32), .row 1 (x61.Times.map eNatf32)]) rfl (by simp) rfl (by repeat' first | exact trivial | refine ⟨?_, ?_⟩) ⟨rfl, trivial, rfl, trivial, rfl, trivial, rfl, trivial, rfl, trivial, rfl, trivial, trivial⟩) ?_
      refine aw_region ?_
      refine awl_val hτ rfl rfl rfl ?_
      refine awl_val hτ rfl rfl rfl ?_
      refine awl_weak (weak_ofP [0, 1, 2] (l := [(5, .ptr 0 0), (6, .d (.int .i64 (x61.Currents.length : Int))), (10, .d (.fl .f32 (farith .add .f32 x74 (farith .quo .f32 (FloatKind.nearest .f32 x75) (1090519040 : Nat))))), (11, .d (.fl .f32 (farith .add .f32 (farith .add .f32 x74 (farith .quo .f32 (FloatKind.nearest .f32 x75) (1090519040 : Nat))) (farith .quo .f32 (FloatKind.nearest .f32 x76) (1090519040 : Nat))))), (12, .d (.fl .f32 x77.1)), (13, .d (.bool x77.2)), (86, .agg [.row 1 x61.Currents.length 0 x61.Currents.length, .row 2 x61.Times.length 0 x61.Times.length]), (87, .d (.fl .f32 (farith .add .f32 (farith .add .f32 x74 (farith .quo .f32 (FloatKind.nearest .f32 x75) (1090519040 : Nat))) (farith .quo .f32 (FloatKind.nearest .f32 x76) (1090519040 : Nat)))))]) (objs := [.box [.row 1 x61.Currents.length 0 x61.Currents.length, .row 2 x61.Times.length 0 x61.Times.length], .row 1 (x61.Currents.map eNatf32), .row 1 (x61.Times.map eNatf32)]) rfl (by simp) rfl (by repeat' first | exact trivial | refine ⟨?_, ?_⟩) ⟨rfl, trivial, rfl, trivial, rfl, trivial, rfl, trivial, rfl, trivial, rfl, trivial, rfl, (by repeat' first | exact trivial | refine ⟨?_, ?_⟩), rfl, trivial, trivial⟩) ?_
      refine bnd_elim h fun x78 hx78 h => ?_
      refine awl_callP hτ true [] rfl rfl rfl (enterOk func28 rfl rfl) (mapO_cons (exV_agg (mapO_cons (exC_view (f := eNatf32) x61.Currents rfl rfl rfl) (mapO_cons (exC_view (f := eNatf32) x61.Times rfl rfl rfl) mapO_nil))) (mapO_cons rfl mapO_nil)) rfl (by simp) ⟨⟨(exP_view (f := eNatf32) x61.Currents rfl rfl rfl), (exP_view (f := eNatf32) x61.Times rfl rfl rfl)⟩, trivial, trivial⟩ (by repeat' first | exact trivial | refine ⟨?_, ?_⟩) (impl_TimeAt_ok_fr n (SCurve.mk x61.Currents x61.Times) (farith .add .f32 (farith .add .f32 x74 (farith .quo .f32 (FloatKind.nearest .f32 x75) (1090519040 : Nat))) (farith .quo .f32 (FloatKind.nearest .f32 x76) (1090519040 : Nat))) hx78) ?_
      rintro r0 o0 n0 ⟨rfl, rfl, rfl⟩ -
      refine awl_val hτ rfl rfl rfl ?_
      refine awl_val hτ rfl rfl rfl ?_
      refine awl_val hτ rfl rfl rfl ?_
      refine awl_val hτ rfl rfl rfl ?_
      refine awl_val hτ rfl rfl rfl ?_
      refine awl_nil ?_
      refine aw_seq ?_
      refine aw_weak (weak_ofP [0, 1, 2] (l := [(5, .ptr 0 0), (6, .d (.int .i64 (x61.Currents.length : Int))), (10, .d (.fl .f32 (farith .add .f32 x74 (farith .quo .f32 (FloatKind.nearest .f32 x75) (1090519040 : Nat))))), (11, .d (.fl .f32 (farith .add .f32 (farith .add .f32 x74 (farith .quo .f32 (FloatKind.nearest .f32 x75) (1090519040 : Nat))) (farith .quo .f32 (FloatKind.nearest .f32 x76) (1090519040 : Nat))))), (12, .d (.fl .f32 x77.1)), (13, .d (.bool x77.2)), (14, .d (.fl .f32 x78.1)), (15, .d (.bool x78.2))]) (objs := [.box [.row 1 x61.Currents.length 0 x61.Currents.length, .row 2 x61.Times.length 0 x61.Times.length], .row 1 (x61.Currents.map eNatf32), .row 1 (x61.Times.map eNatf32)]) rfl (by simp) rfl (by repeat' first | exact trivial | refine ⟨?_, ?_⟩) ⟨rfl, trivial, rfl, trivial, rfl, trivial, rfl, trivial, rfl, trivial, rfl, trivial, rfl, trivial, rfl, trivial, trivial⟩) ?_
      refine aw_region ?_
      refine awl_val hτ rfl rfl rfl ?_
      refine awl_weak (weak_ofP [0, 1, 2] (l := [(5, .ptr 0 0), (6, .d (.int .i64 (x61.Currents.length : Int))), (10, .d (.fl .f32 (farith .add .f32 x74 (farith .quo .f32 (FloatKind.nearest .f32 x75) (1090519040 : Nat))))), (11, .d (.fl .f32 (farith .add .f32 (farith .add .f32 x74 (farith .quo .f32 (FloatKind.nearest .f32 x75) (1090519040 : Nat))) (farith .quo .f32 (FloatKind.nearest .f32 x76) (1090519040 : Nat))))), (12, .d (.fl .f32 x77.1)), (13, .d (.bool x77.2)), (14, .d (.fl .f32 x78.1)), (15, .d (.bool x78.2)), (92, .agg [.row 1 x61.Currents.length 0 x61.Currents.length, .row 2 x61.Times.length 0 x61.Times.length])]) (objs := [.box [.row 1 x61.Currents.length 0 x61.Currents.length, .row 2 x61.Times.length 0 x61.Times.length], .row 1 (x61.Currents.map eNatf32), .row 1 (x61.Times.map eNatf32)]) rfl (by simp) rfl (by repeat' first | exact trivial | refine ⟨?_, ?_⟩) ⟨rfl, trivial, rfl, trivial, rfl, trivial, rfl, trivial, rfl, trivial, rfl, trivial, rfl, trivial, rfl, trivial, rfl, (by repeat' first | exact trivial | refine ⟨?_, ?_⟩), trivial⟩) ?_
      refine bnd_elim h fun x79 hx79 h => ?_
      refine awl_callP hτ true [] rfl rfl rfl (enterOk func29 rfl rfl) (mapO_cons (exV_agg (mapO_cons (exC_view (f := eNatf32) x61.Currents rfl rfl rfl) (mapO_cons (exC_view (f := eNatf32) x61.Times rfl rfl rfl) mapO_nil))) (mapO_cons rfl (mapO_cons rfl mapO_nil))) rfl (by simp) ⟨⟨(exP_view (f := eNatf32) x61.Currents rfl rfl rfl), (exP_view (f := eNatf32) x61.Times rfl rfl rfl)⟩, trivial, trivial, trivial⟩ (by repeat' first | exact trivial | refine ⟨?_, ?_⟩) (impl_ScaleCurve_ok_fr n (SCurve.mk x61.Currents x61.Times) (1073741824 : Nat) (1073741824 : Nat) hx79) ?_
      rintro r0 o0 n0 ⟨rfl, rfl, rfl⟩ -
      refine awl_val hτ rfl rfl rfl ?_
      refine awl_val hτ rfl rfl rfl ?_
      refine awl_val hτ rfl rfl rfl ?_
      refine awl_valH hτ rfl rfl rfl ?_
      refine awl_valH hτ rfl rfl rfl ?_
      refine awl_val hτ rfl rfl rfl ?_
      refine awl_nil ?_
      refine aw_seq ?_
      refine aw_weak (weak_ofP [0, 1, 2, 5, 3, 4] (l := [(5, .ptr 0 0), (6, .d (.int .i64 (x61.Currents.length : Int))), (10, .d (.fl .f32 (farith .add .f32 x74 (farith .quo .f32 (FloatKind.nearest .f32 x75) (1090519040 : Nat))))), (11, .d (.fl .f32 (farith .add .f32 (farith .add .f32 x74 (farith .quo .f32 (FloatKind.nearest .f32 x75) (1090519040 : Nat))) (farith .quo .f32 (FloatKind.nearest .f32 x76) (1090519040 : Nat))))), (12, .d (.fl .f32 x77.1)), (13, .d (.bool x77.2)), (14, .d (.fl .f32 x78.1)), (15, .d (.bool x78.2)), (16, .ptr 3 0), (17, .d (.bool x79.2))]) (objs := [.box [.row 1 x61.Currents.length 0 x61.Currents.length, .row 2 x61.Times.length 0 x61.Times.length], .row 1 (x61.Currents.map eNatf32), .row 1 (x61.Times.map eNatf32), .box [.row 4 x79.1.Currents.length 0 x79.1.Currents.length, .row 5 x79.1.Times.length 0 x79.1.Times.length], .row 1 (x79.1.Currents.map eNatf32), .row 1 (x79.1.Times.map eNatf32)]) rfl (by simp) rfl (by repeat' first | exact trivial | refine ⟨?_, ?_⟩) ⟨rfl, trivial, rfl, trivial, rfl, trivial, rfl, trivial, rfl, trivial, rfl, trivial, rfl, trivial, rfl, trivial, rfl, trivial, rfl, trivial, trivial⟩) ?_
      refine aw_region ?_
      refine awl_val hτ rfl rfl rfl ?_
      refine awl_val hτ rfl rfl rfl ?_
      refine awl_val hτ rfl rfl rfl ?_
      refine awl_weak (weak_ofP [0, 1, 2, 3, 4, 5] (l := [(5, .ptr 0 0), (6, .d (.int .i64 (x61.Currents.length : Int))), (10, .d (.fl .f32 (farith .add .f32 x74 (farith .quo .f32 (FloatKind.nearest .f32 x75) (1090519040 : Nat))))), (11, .d (.fl .f32 (farith .add .f32 (farith .add .f32 x74 (farith .quo .f32 (FloatKind.nearest .f32 x75) (1090519040 : Nat))) (farith .quo .f32 (FloatKind.nearest .f32 x76) (1090519040 : Nat))))), (12, .d (.fl .f32 x77.1)), (13, .d (.bool x77.2)), (14, .d (.fl .f32 x78.1)), (15, .d (.bool x78.2)), (16, .ptr 3 0), (17, .d (.bool x79.2)), (97, .agg [.row 4 x79.1.Currents.length 0 x79.1.Currents.length, .row 5 x79.1.Times.length 0 x79.1.Times.length]), (99, .d (.fl .f32 (farith .mul .f32 (1073741824 : Nat) (farith .add .f32 x74 (farith .quo .f32 (FloatKind.nearest .f32 x75) (1090519040 : Nat))))))]) (objs := [.box [.row 1 x61.Currents.length 0 x61.Currents.length, .row 2 x61.Times.length 0 x61.Times.length], .row 1 (x61.Currents.map eNatf32), .row 1 (x61.Times.map eNatf32), .box [.row 4 x79.1.Currents.length 0 x79.1.Currents.length, .row 5 x79.1.Times.length 0 x79.1.Times.length], .row 1 (x79.1.Currents.map eNatf32), .row 1 (x79.1.Times.map eNatf32)]) rfl (by simp) rfl (by repeat' first | exact trivial | refine ⟨?_, ?_⟩) ⟨rfl, trivial, rfl, trivial, rfl, trivial, rfl, trivial, rfl, trivial, rfl, trivial, rfl, trivial, rfl, trivial, rfl, trivial, rfl, trivial, rfl, (by repeat' first | exact trivial | refine ⟨?_, ?_⟩), rfl, trivial, trivial⟩) ?_
      refine bnd_elim h fun x80 hx80 h => ?_
      refine awl_callP hτ true [] rfl rfl rfl (enterOk func28 rfl rfl) (mapO_cons (exV_agg (mapO_cons (exC_view (f := eNatf32) x79.1.Currents rfl rfl rfl) (mapO_cons (exC_view (f := eNatf32) x79.1.Times rfl rfl rfl) mapO_nil))) (mapO_cons rfl mapO_nil)) rfl (by simp) ⟨⟨(exP_view (f := eNatf32) x79.1.Currents rfl rfl rfl), (exP_view (f := eNatf32) x79.1.Times rfl rfl rfl)⟩, trivial, trivial⟩ (by repeat' first | exact trivial | refine ⟨?_, ?_⟩) (impl_TimeAt_ok_fr n (SCurve.mk x79.1.Currents x79.1.Times) (farith .mul .f32 (1073741824 : Nat) (farith .add .f32 x74 (farith .quo .f32 (FloatKind.nearest .f32 x75) (1090519040 : Nat)))) hx80) ?_
      rintro r0 o0 n0 ⟨rfl, rfl, rfl⟩ -
      refine awl_val hτ rfl rfl rfl ?_
      refine awl_val hτ rfl rfl rfl ?_
      refine awl_val hτ rfl rfl rfl ?_
      refine awl_val hτ rfl rfl rfl ?_
      refine awl_val hτ rfl rfl rfl ?_
      refine awl_nil ?_
      refine aw_seq ?_
      refine aw_weak (weak_ofP [0, 1, 2, 3, 4, 5] (l := [(5, .ptr 0 0), (6, .d (.int .i64 (x61.Currents.length : Int))), (10, .d (.fl .f32 (farith .add .f32 x74 (farith .quo .f32 (FloatKind.nearest .f32 x75) (1090519040 : Nat))))), (11, .d (.fl .f32 (farith .add .f32 (farith .add .f32 x74 (farith .quo .f32 (FloatKind.nearest .f32 x75) (1090519040 : Nat))) (farith .quo .f32 (FloatKind.nearest .f32 x76) (1090519040 : Nat))))), (12, .d (.fl .f32 x77.1)), (13, .d (.bool x77.2)), (14, .d (.fl .f32 x78.1)), (15, .d (.bool x78.2)), (16, .ptr 3 0), (17, .d (.bool x79.2)), (18, .d (.fl .f32 x80.1)), (19, .d (.bool x80.2))]) (objs := [.box [.row 1 x61.Currents.length 0 x61.Currents.length, .row 2 x61.Times.length 0 x61.Times.length], .row 1 (x61.Currents.map eNatf32), .row 1 (x61.Times.map eNatf32), .box [.row 4 x79.1.Currents.length 0 x79.1.Currents.length, .row 5 x79.1.Times.length 0 x79.1.Times.length], .row 1 (x79.1.Currents.map eNatf32), .row 1 (x79.1.Times.map eNatf32)]) rfl (by simp) rfl (by repeat' first | exact trivial | refine ⟨?_, ?_⟩) ⟨rfl, trivial, rfl, trivial, rfl, trivial, rfl, trivial, rfl, trivial, rfl, trivial, rfl, trivial, rfl, trivial, rfl, trivial, rfl, trivial, rfl, trivial, rfl, trivial, trivial⟩) ?_
      refine any_start ?_
      refine any_val hτ [0] 0 rfl rfl rfl rfl rfl ?_
      refine any_val hτ [0] 1 rfl rfl rfl rfl rfl ?_
      refine any_val hτ [0] 2 rfl rfl rfl rfl rfl ?_
      refine any_need hτ [1] 3 rfl rfl rfl rfl rfl (row_need hx74) ?_
      refine any_elem hτ [1] 4 rfl rfl rfl rfl rfl (len_map _) (row_get hx74) rfl ?_
      refine any_val hτ [] 5 rfl rfl rfl rfl rfl ?_
      refine bnd_elim h fun x81 hx81 h => ?_
      refine any_callP hτ true [] [0, 1, 2, 3, 4, 5] 6 rfl rfl rfl rfl (enterOk func28 rfl rfl) (mapO_cons (exV_agg (mapO_cons (exC_view (f := eNatf32) x61.Currents rfl rfl rfl) (mapO_cons (exC_view (f := eNatf32) x61.Times rfl rfl rfl) mapO_nil))) (mapO_cons rfl mapO_nil)) rfl (by simp) ⟨⟨(exP_view (f := eNatf32) x61.Currents rfl rfl rfl), (exP_view (f := eNatf32) x61.Times rfl rfl rfl)⟩, trivial, trivial⟩ (by repeat' first | exact trivial | refine ⟨?_, ?_⟩) (impl_TimeAt_ok_fr n (SCurve.mk x61.Currents x61.Times) (farith .quo .f32 x74 (1073741824 : Nat)) hx81) ⟨rfl, rfl, rfl, rfl, rfl, rfl, trivial⟩ ?_
      refine any_val hτ [] 7 rfl rfl rfl rfl rfl ?_
      refine any_val hτ [] 8 rfl rfl rfl rfl rfl ?_
      refine any_val hτ [] 9 rfl rfl rfl rfl rfl ?_
      refine any_val hτ [] 10 rfl rfl rfl rfl rfl ?_
      refine any_val hτ [] 11 rfl rfl rfl rfl rfl ?_
      refine any_done mixed (by kernel_rfl) ?_
      refine aw_seq ?_
      refine aw_weak (weak_ofP [0, 1, 2, 3, 4, 5] (l := [(5, .ptr 0 0), (6, .d (.int .i64 (x61.Currents.length : Int))), (10, .d (.fl .f32 (farith .add .f32 x74 (farith .quo .f32 (FloatKind.nearest .f32 x75) (1090519040 : Nat))))), (11, .d (.fl .f32 (farith .add .f32 (farith .add .f32 x74 (farith .quo .f32 (FloatKind.nearest .f32 x75) (1090519040 : Nat))) (farith .quo .f32 (FloatKind.nearest .f32 x76) (1090519040 : Nat))))), (12, .d (.fl .f32 x77.1)), (13, .d (.bool x77.2)), (14, .d (.fl .f32 x78.1)), (15, .d (.bool x78.2)), (16, .ptr 3 0), (17, .d (.bool x79.2)), (18, .d (.fl .f32 x80.1)), (19, .d (.bool x80.2)), (21, .d (.bool x81.2))]) (objs := [.box [.row 1 x61.Currents.length 0 x61.Currents.length, .row 2 x61.Times.length 0 x61.Times.length], .row 1 (x61.Currents.map eNatf32), .row 1 (x61.Times.map eNatf32), .box [.row 4 x79.1.Currents.length 0 x79.1.Currents.length, .row 5 x79.1.Times.length 0 x79.1.Times.length], .row 1 (x79.1.Currents.map eNatf32), .row 1 (x79.1.Times.map eNatf32)]) rfl (by simp) rfl (by repeat' first | exact trivial | refine ⟨?_, ?_⟩) ⟨rfl, trivial, rfl, trivial, rfl, trivial, rfl, trivial, rfl, trivial, rfl, trivial, rfl, trivial, rfl, trivial, rfl, trivial, rfl, trivial, rfl, trivial, rfl, trivial, rfl, trivial, trivial⟩) ?_
      refine aw_region ?_
      refine awl_val hτ rfl rfl rfl ?_
      refine awl_val hτ rfl rfl rfl ?_
      refine awl_val hτ rfl rfl rfl ?_
      refine awl_weak (weak_ofP [0, 1, 2, 3, 4, 5] (l := [(5, .ptr 0 0), (6, .d (.int .i64 (x61.Currents.length : Int))), (10, .d (.fl .f32 (farith .add .f32 x74 (farith .quo .f32 (FloatKind.nearest .f32 x75) (1090519040 : Nat))))), (11, .d (.fl .f32 (farith .add .f32 (farith .add .f32 x74 (farith .quo .f32 (FloatKind.nearest .f32 x75) (1090519040 : Nat))) (farith .quo .f32 (FloatKind.nearest .f32 x76) (1090519040 : Nat))))), (12, .d (.fl .f32 x77.1)), (13, .d (.bool x77.2)), (14, .d (.fl .f32 x78.1)), (15, .d (.bool x78.2)), (16, .ptr 3 0), (17, .d (.bool x79.2)), (18, .d (.fl .f32 x80.1)), (19, .d (.bool x80.2)), (21, .d (.bool x81.2)), (114, .agg [.row 1 x61.Currents.length 0 x61.Currents.length, .row 2 x61.Times.length 0 x61.Times.length]), (115, .agg [.row 1 x61.Currents.length 0 x61.Currents.length, .row 2 x61.Times.length 0 x61.Times.length]), (116, .d (.fl .f32 (farith .add .f32 x74 (farith .quo .f32 (FloatKind.nearest .f32 x75) (1090519040 : Nat)))))]) (objs := [.box [.row 1 x61.Currents.length 0 x61.Currents.length, .row 2 x61.Times.length 0 x61.Times.length], .row 1 (x61.Currents.map eNatf32), .row 1 (x61.Times.map eNatf32), .box [.row 4 x79.1.Currents.length 0 x79.1.Currents.length, .row 5 x79.1.Times.length 0 x79.1.Times.length], .row 1 (x79.1.Currents.map eNatf32), .row 1 (x79.1.Times.map eNatf32)]) rfl (by simp) rfl (by repeat' first | exact trivial | refine ⟨?_, ?_⟩) ⟨rfl, trivial, rfl, trivial, rfl, trivial, rfl, trivial, rfl, trivial, rfl, trivial, rfl, trivial, rfl, trivial, rfl, trivial, rfl, trivial, rfl, trivial, rfl, trivial, rfl, trivial, rfl, (by repeat' first | exact trivial | refine ⟨?_, ?_⟩), rfl, (by repeat' first | exact trivial | refine ⟨?_, ?_⟩), rfl, trivial, trivial⟩) ?_
      refine bnd_elim h fun x82 hx82 h => ?_
      refine awl_callP hτ true [] rfl rfl rfl (enterOk func30 rfl rfl) (mapO_cons (exV_agg (mapO_cons (exC_view (f := eNatf32) x61.Currents rfl rfl rfl) (mapO_cons (exC_view (f := eNatf32) x61.Times rfl rfl rfl) mapO_nil))) (mapO_cons (exV_agg (mapO_cons (exC_view (f := eNatf32) x61.Currents rfl rfl rfl) (mapO_cons (exC_view (f := eNatf32) x61.Times rfl rfl rfl) mapO_nil))) (mapO_cons rfl mapO_nil))) rfl (by simp) ⟨⟨(exP_view (f := eNatf32) x61.Currents rfl rfl rfl), (exP_view (f := eNatf32) x61.Times rfl rfl rfl)⟩, ⟨(exP_view (f := eNatf32) x61.Currents rfl rfl rfl), (exP_view (f := eNatf32) x61.Times rfl rfl rfl)⟩, trivial, trivial⟩ (by repeat' first | exact trivial | refine ⟨?_, ?_⟩) (impl_MarginAt_ok_fr n (SCurve.mk x61.Currents x61.Times) (SCurve.mk x61.Currents x61.Times) (farith .add .f32 x74 (farith .quo .f32 (FloatKind.nearest .f32 x75) (1090519040 : Nat))) hx82) ?_
      rintro r0 o0 n0 ⟨rfl, rfl, rfl⟩ -
      refine awl_val hτ rfl rfl rfl ?_
      refine awl_val hτ rfl rfl rfl ?_
      refine awl_val hτ rfl rfl rfl ?_
      refine awl_val hτ rfl rfl rfl ?_
      refine awl_val hτ rfl rfl rfl ?_
      refine awl_nil ?_
      refine aw_seq ?_
      refine aw_weak (weak_ofP [0, 1, 2, 3, 4, 5] (l := [(5, .ptr 0 0), (6, .d (.int .i64 (x61.Currents.length : Int))), (10, .d (.fl .f32 (farith .add .f32 x74 (farith .quo .f32 (FloatKind.nearest .f32 x75) (1090519040 : Nat))))), (11, .d (.fl .f32 (farith .add .f32 (farith .add .f32 x74 (farith .quo .f32 (FloatKind.nearest .f32 x75) (1090519040 : Nat))) (farith .quo .f32 (FloatKind.nearest .f32 x76) (1090519040 : Nat))))), (12, .d (.fl .f32 x77.1)), (13, .d (.bool x77.2)), (14, .d (.fl .f32 x78.1)), (15, .d (.bool x78.2)), (16, .ptr 3 0), (17, .d (.bool x79.2)), (18, .d (.fl .f32 x80.1)), (19, .d (.bool x80.2)), (21, .d (.bool x81.2)), (22, .d (.fl .f32 x82.1)), (23, .d (.bool x82.2))]) (objs := [.box [.row 1 x61.Currents.length 0 x61.Currents.length, .row 2 x61.Times.length 0 x61.Times.length], .row 1 (x61.Currents.map eNatf32), .row 1 (x61.Times.map eNatf32), .box [.row 4 x79.1.Currents.length 0 x79.1.Currents.length, .row 5 x79.1.Times.length 0 x79.1.Times.length], .row 1 (x79.1.Currents.map eNatf32), .row 1 (x79.1.Times.map eNatf32)]) rfl (by simp) rfl (by repeat' first | exact trivial | refine ⟨?_, ?_⟩) ⟨rfl, trivial, rfl, trivial, rfl, trivial, rfl, trivial, rfl, trivial, rfl, trivial, rfl, trivial, rfl, trivial, rfl, trivial, rfl, trivial, rfl, trivial, rfl, trivial, rfl, trivial, rfl, trivial, rfl, trivial, trivial⟩) ?_
      refine aw_region ?_
      refine awl_val hτ rfl rfl rfl ?_
      refine awl_val hτ rfl rfl rfl ?_
      refine awl_val hτ rfl rfl rfl ?_
      refine awl_val hτ rfl rfl rfl ?_
      refine awl_weak (weak_ofP [0, 1, 2, 3, 4, 5] (l := [(5, .ptr 0 0), (6, .d (.int .i64 (x61.Currents.length : Int))), (10, .d (.fl .f32 (farith .add .f32 x74 (farith .quo .f32 (FloatKind.nearest .f32 x75) (1090519040 : Nat))))), (11, .d (.fl .f32 (farith .add .f32 (farith .add .f32 x74 (farith .quo .f32 (FloatKind.nearest .f32 x75) (1090519040 : Nat))) (farith .quo .f32 (FloatKind.nearest .f32 x76) (1090519040 : Nat))))), (12, .d (.fl .f32 x77.1)), (13, .d (.bool x77.2)), (14, .d (.fl .f32 x78.1)), (15, .d (.bool x78.2)), (16, .ptr 3 0), (17, .d (.bool x79.2)), (18, .d (.fl .f32 x80.1)), (19, .d (.bool x80.2)), (21, .d (.bool x81.2)), (22, .d (.fl .f32 x82.1)), (23, .d (.bool x82.2)), (121, .agg [.row 1 x61.Currents.length 0 x61.Currents.length, .row 2 x61.Times.length 0 x61.Times.length]), (122, .agg [.row 4 x79.1.Currents.length 0 x79.1.Currents.length, .row 5 x79.1.Times.length 0 x79.1.Times.length]), (123, .d (.fl .f32 (farith .add .f32 x74 (farith .quo .f32 (FloatKind.nearest .f32 x75) (1090519040 : Nat))))), (124, .d (.fl .f32 (farith .add .f32 (farith .add .f32 x74 (farith .quo .f32 (FloatKind.nearest .f32 x75) (1090519040 : Nat))) (farith .quo .f32 (FloatKind.nearest .f32 x76) (1090519040 : Nat)))))]) (objs := [.box [.row 1 x61.Currents.length 0 x61.Currents.length, .row 2 x61.Times.length 0 x61.Times.length], .row 1 (x61.Currents.map eNatf32), .row 1 (x61.Times.map eNatf32), .box [.row 4 x79.1.Currents.length 0 x79.1.Currents.length, .row 5 x79.1.Times.length 0 x79.1.Times.length], .row 1 (x79.1.Currents.map eNatf32), .row 1 (x79.1.Times.map eNatf32)]) rfl (by simp) rfl (by repeat' first | exact trivial | refine ⟨?_, ?_⟩) ⟨rfl, trivial, rfl, trivial, rfl, trivial, rfl, trivial, rfl, trivial, rfl, trivial, rfl, trivial, rfl, trivial, rfl, trivial, rfl, trivial, rfl, trivial, rfl, trivial, rfl, trivial, rfl, trivial, rfl, trivial, rfl, (by repeat' first | exact trivial | refine ⟨?_, ?_⟩), rfl, (by repeat' first | exact trivial | refine ⟨?_, ?_⟩), rfl, trivial, rfl, trivial, trivial⟩) ?_
      refine bnd_elim h fun x83 hx83 h => ?_
      refine awl_callP hτ true [] rfl rfl rfl (enterOk func31 rfl rfl) (mapO_cons (exV_agg (mapO_cons (exC_view (f := eNatf32) x61.Currents rfl rfl rfl) (mapO_cons (exC_view (f := eNatf32) x61.Times rfl rfl rfl) mapO_nil))) (mapO_cons (exV_agg (mapO_cons (exC_view (f := eNatf32) x79.1.Currents rfl rfl rfl) (mapO_cons (exC_view (f := eNatf32) x79.1.Times rfl rfl rfl) mapO_nil))) (mapO_cons rfl (mapO_cons rfl (mapO_cons rfl mapO_nil))))) rfl (by simp) ⟨⟨(exP_view (f := eNatf32) x61.Currents rfl rfl rfl), (exP_view (f := eNatf32) x61.Times rfl rfl rfl)⟩, ⟨(exP_view (f := eNatf32) x79.1.Currents rfl rfl rfl), (exP_view (f := eNatf32) x79.1.Times rfl rfl rfl)⟩, trivial, trivial, trivial, trivial⟩ (by repeat' first | exact trivial | refine ⟨?_, ?_⟩) (impl_GradeOf_ok_fr n (SCurve.mk x61.Currents x61.Times) (SCurve.mk x79.1.Currents x79.1.Times) (farith .add .f32 x74 (farith .quo .f32 (FloatKind.nearest .f32 x75) (1090519040 : Nat))) (farith .add .f32 (farith .add .f32 x74 (farith .quo .f32 (FloatKind.nearest .f32 x75) (1090519040 : Nat))) (farith .quo .f32 (FloatKind.nearest .f32 x76) (1090519040 : Nat))) (5 : Int) hx83) ?_
      rintro r0 o0 n0 ⟨rfl, rfl, rfl⟩ -
      refine awl_val hτ rfl rfl rfl ?_
      refine awl_val hτ rfl rfl rfl ?_
      refine awl_val hτ rfl rfl rfl ?_
      refine awl_val hτ rfl rfl rfl ?_
      refine awl_val hτ rfl rfl rfl ?_
      refine awl_nil ?_
      refine aw_seq ?_
      refine aw_weak (weak_ofP [0, 1, 2, 3, 4, 5] (l := [(5, .ptr 0 0), (6, .d (.int .i64 (x61.Currents.length : Int))), (10, .d (.fl .f32 (farith .add .f32 x74 (farith .quo .f32 (FloatKind.nearest .f32 x75) (1090519040 : Nat))))), (11, .d (.fl .f32 (farith .add .f32 (farith .add .f32 x74 (farith .quo .f32 (FloatKind.nearest .f32 x75) (1090519040 : Nat))) (farith .quo .f32 (FloatKind.nearest .f32 x76) (1090519040 : Nat))))), (12, .d (.fl .f32 x77.1)), (13, .d (.bool x77.2)), (14, .d (.fl .f32 x78.1)), (15, .d (.bool x78.2)), (16, .ptr 3 0), (17, .d (.bool x79.2)), (18, .d (.fl .f32 x80.1)), (19, .d (.bool x80.2)), (21, .d (.bool x81.2)), (22, .d (.fl .f32 x82.1)), (23, .d (.bool x82.2)), (24, .d (.fl .f32 x83.1)), (25, .d (.bool x83.2))]) (objs := [.box [.row 1 x61.Currents.length 0 x61.Currents.length, .row 2 x61.Times.length 0 x61.Times.length], .row 1 (x61.Currents.map eNatf32), .row 1 (x61.Times.map eNatf32), .box [.row 4 x79.1.Currents.length 0 x79.1.Currents.length, .row 5 x79.1.Times.length 0 x79.1.Times.length], .row 1 (x79.1.Currents.map eNatf32), .row 1 (x79.1.Times.map eNatf32)]) rfl (by simp) rfl (by repeat' first | exact trivial | refine ⟨?_, ?_⟩) ⟨rfl, trivial, rfl, trivial, rfl, trivial, rfl, trivial, rfl, trivial, rfl, trivial, rfl, trivial, rfl, trivial, rfl, trivial, rfl, trivial, rfl, trivial, rfl, trivial, rfl, trivial, rfl, trivial, rfl, trivial, rfl, trivial, rfl, trivial, trivial⟩) ?_
      refine aw_region ?_
      refine awl_val hτ rfl rfl rfl ?_
      refine awl_val hτ rfl rfl rfl ?_
      refine awl_val hτ rfl rfl rfl ?_
      refine awl_val hτ rfl rfl rfl ?_
      refine awl_weak (weak_ofP [0, 1, 2, 4, 5] (l := [(5, .ptr 0 0), (6, .d (.int .i64 (x61.Currents.length : Int))), (12, .d (.fl .f32 x77.1)), (13, .d (.bool x77.2)), (14, .d (.fl .f32 x78.1)), (15, .d (.bool x78.2)), (17, .d (.bool x79.2)), (18, .d (.fl .f32 x80.1)), (19, .d (.bool x80.2)), (21, .d (.bool x81.2)), (22, .d (.fl .f32 x82.1)), (23, .d (.bool x82.2)), (24, .d (.fl .f32 x83.1)), (25, .d (.bool x83.2)), (129, .agg [.row 1 x61.Currents.length 0 x61.Currents.length, .row 2 x61.Times.length 0 x61.Times.length]), (130, .agg [.row 3 x79.1.Currents.length 0 x79.1.Currents.length, .row 4 x79.1.Times.length 0 x79.1.Times.length]), (131, .d (.fl .f32 (farith .add .f32 x74 (farith .quo .f32 (FloatKind.nearest .f32 x75) (1090519040 : Nat))))), (132, .d (.fl .f32 (farith .add .f32 (farith .add .f32 x74 (farith .quo .f32 (FloatKind.nearest .f32 x75) (1090519040 : Nat))) (farith .quo .f32 (FloatKind.nearest .f32 x76) (1090519040 : Nat)))))]) (objs := [.box [.row 1 x61.Currents.length 0 x61.Currents.length, .row 2 x61.Times.length 0 x61.Times.length], .row 1 (x61.Currents.map eNatf32), .row 1 (x61.Times.map eNatf32), .row 1 (x79.1.Currents.map eNatf32), .row 1 (x79.1.Times.map eNatf32)]) rfl (by simp) rfl (by repeat' first | exact trivial | refine ⟨?_, ?_⟩) ⟨rfl, trivial, rfl, trivial, rfl, trivial, rfl, trivial, rfl, trivial, rfl, trivial, rfl, trivial, rfl, trivial, rfl, trivial, rfl, trivial, rfl, trivial, rfl, trivial, rfl, trivial, rfl, trivial, rfl, (by repeat' first | exact trivial | refine ⟨?_, ?_⟩), rfl, (by repeat' first | exact trivial | refine ⟨?_, ?_⟩), rfl, trivial, rfl, trivial, trivial⟩) ?_
      refine bnd_elim h fun x84 hx84 h => ?_
      refine awl_callP hτ true [] rfl rfl rfl (enterOk func32 rfl rfl) (mapO_cons (exV_agg (mapO_cons (exC_view (f := eNatf32) x61.Currents rfl rfl rfl) (mapO_cons (exC_view (f := eNatf32) x61.Times rfl rfl rfl) mapO_nil))) (mapO_cons (exV_agg (mapO_cons (exC_view (f := eNatf32) x79.1.Currents rfl rfl rfl) (mapO_cons (exC_view (f := eNatf32) x79.1.Times rfl rfl rfl) mapO_nil))) (mapO_cons rfl (mapO_cons rfl (mapO_cons rfl mapO_nil))))) rfl (by simp) ⟨⟨(exP_view (f := eNatf32) x61.Currents rfl rfl rfl), (exP_view (f := eNatf32) x61.Times rfl rfl rfl)⟩, ⟨(exP_view (f := eNatf32) x79.1.Currents rfl rfl rfl), (exP_view (f := eNatf32) x79.1.Times rfl rfl rfl)⟩, trivial, trivial, trivial, trivial⟩ (by repeat' first | exact trivial | refine ⟨?_, ?_⟩) (spec_GradeOf_ok_fr n (SCurve.mk x61.Currents x61.Times) (SCurve.mk x79.1.Currents x79.1.Times) (farith .add .f32 x74 (farith .quo .f32 (FloatKind.nearest .f32 x75) (1090519040 : Nat))) (farith .add .f32 (farith .add .f32 x74 (farith .quo .f32 (FloatKind.nearest .f32 x75) (1090519040 : Nat))) (farith .quo .f32 (FloatKind.nearest .f32 x76) (1090519040 : Nat))) (5 : Int) hx84) ?_
      rintro r0 o0 n0 ⟨rfl, rfl, rfl⟩ -
      refine awl_val hτ rfl rfl rfl ?_
      refine awl_val hτ rfl rfl rfl ?_
      refine awl_val hτ rfl rfl rfl ?_
      refine awl_val hτ rfl rfl rfl ?_
      refine awl_val hτ rfl rfl rfl ?_
      refine awl_nil ?_
      refine aw_hk1 (ι := Unit) (fun _ => St.of [(5, .ptr 0 0), (6, .d (.int .i64 (x61.Currents.length : Int))), (12, .d (.fl .f32 x77.1)), (13, .d (.bool x77.2)), (14, .d (.fl .f32 x78.1)), (15, .d (.bool x78.2)), (17, .d (.bool x79.2)), (18, .d (.fl .f32 x80.1)), (19, .d (.bool x80.2)), (21, .d (.bool x81.2)), (22, .d (.fl .f32 x82.1)), (23, .d (.bool x82.2))] [.box [.row 1 x61.Currents.length 0 x61.Currents.length, .row 2 x61.Times.length 0 x61.Times.length], .row 1 (x61.Currents.map eNatf32), .row 1 (x61.Times.map eNatf32)] f5.ntmps 0) (fun _ => m_laws_FnCurves_j2 n x61 x77 x78 x79 x80 x81 x82 = some r) ?_ (fun hk105 => ?_)
      · rintro ⟨⟩ h
        replace h : m_laws_FnCurves_j2 n x61 x77 x78 x79 x80 x81 x82 = some r := h
        unfold m_laws_FnCurves_j2 at h
        refine aw_seq ?_
        refine aw_region ?_
        refine awl_val hτ rfl rfl rfl ?_
        refine awl_val hτ rfl rfl rfl ?_
        refine awl_split 147 rfl (fun hb89 => ?_) (fun hb89 => ?_)
        · have h := if_bt h hb89
          refine awl_val hτ rfl rfl rfl ?_
          refine awl_val hτ rfl rfl rfl ?_
          refine awl_val hτ rfl rfl rfl ?_
          refine awl_split 150 rfl (fun hb90 => ?_) (fun hb90 => ?_)
          · have h := if_bt h hb90
            refine awl_val hτ rfl rfl rfl ?_
            refine awl_val hτ rfl rfl rfl ?_
            refine awl_val hτ rfl rfl rfl ?_
            refine awl_split 153 rfl (fun hb91 => ?_) (fun hb91 => ?_)
            · have h := if_bt h hb91
              refine awl_val hτ rfl rfl rfl ?_
              refine awl_val hτ rfl rfl rfl ?_
              refine awl_val hτ rfl rfl rfl ?_
              refine awl_split 156 rfl (fun hb92 => ?_) (fun hb92 => ?_)
              · have h := if_bt h hb92
                refine awl_val hτ rfl rfl rfl ?_
                refine awl_weak (weak_ofP [0, 1, 2] (l := [(5, .ptr 0 0), (6, .d (.int .i64 (x61.Currents.length : Int))), (12, .d (.fl .f32 x77.1)), (14, .d (.fl .f32 x78.1)), (18, .d (.fl .f32 x80.1)), (22, .d (.fl .f32 x82.1)), (23, .d (.bool x82.2)), (156, .d (.bool true)), (157, .d (.bool x81.2))]) (objs := [.box [.row 1 x61.Currents.length 0 x61.Currents.length, .row 2 x61.Times.length 0 x61.Times.length], .row 1 (x61.Currents.map eNatf32), .row 1 (x61.Times.map eNatf32)]) rfl (by simp) rfl (by repeat' first | exact trivial | refine ⟨?_, ?_⟩) ⟨rfl, trivial, rfl, trivial, rfl, trivial, rfl, trivial, rfl, trivial, rfl, trivial, rfl, trivial, rfl, trivial, rfl, trivial, trivial⟩) ?_
                refine awl_val hτ rfl rfl rfl ?_
                refine awl_val hτ rfl rfl rfl ?_
                refine awl_val hτ rfl rfl rfl ?_
                refine awl_split 160 rfl (fun hb93 => ?_) (fun hb93 => ?_)
                · have hb93 := not_t hb93
                  have h := if_bf h hb93
                  refine awl_val hτ rfl rfl rfl ?_
                  refine awl_val hτ rfl rfl rfl ?_
                  refine awl_val hτ rfl rfl rfl ?_
                  refine awl_split 163 rfl (fun hb94 => ?_) (fun hb94 => ?_)
                  · have h := if_bt h hb94
                    refine awl_val hτ rfl rfl rfl ?_
                    refine awl_val hτ rfl rfl rfl ?_
                    refine awl_val hτ rfl rfl rfl ?_
                    refine awl_val hτ rfl rfl rfl ?_
                    refine awl_split 167 rfl (fun hb95 => ?_) (fun hb95 => ?_)
                    · have h := if_bt h hb95
                      refine awl_val hτ rfl rfl rfl ?_
                      refine awl_weak (weak_ofP [0, 1, 2] (l := [(5, .ptr 0 0), (6, .d (.int .i64 (x61.Currents.length : Int))), (12, .d (.fl .f32 x77.1)), (14, .d (.fl .f32 x78.1)), (18, .d (.fl .f32 x80.1)), (167, .d (.bool true)), (168, .agg [.row 1 x61.Currents.length 0 x61.Currents.length, .row 2 x61.Times.length 0 x61.Times.length])]) (objs := [.box [.row 1 x61.Currents.length 0 x61.Currents.length, .row 2 x61.Times.length 0 x61.Times.length], .row 1 (x61.Currents.map eNatf32), .row 1 (x61.Times.map eNatf32)]) rfl (by simp) rfl (by repeat' first | exact trivial | refine ⟨?_, ?_⟩) ⟨rfl, trivial, rfl, trivial, rfl, trivial, rfl, trivial, rfl, trivial, rfl, trivial, rfl, (by repeat' first | exact trivial | refine ⟨?_, ?_⟩), trivial⟩) ?_
                      refine bnd_elim h fun x96 hx96 h => ?_
                      refine awl_callP hτ true [] rfl rfl rfl (enterOk func33 rfl rfl) (mapO_cons (exV_agg (mapO_cons (exC_view (f := eNatf32) x61.Currents rfl rfl rfl) (mapO_cons (exC_view (f := eNatf32) x61.Times rfl rfl rfl) mapO_nil))) mapO_nil) rfl (by simp) ⟨⟨(exP_view (f := eNatf32) x61.Currents rfl rfl rfl), (exP_view (f := eNatf32) x61.Times rfl rfl rfl)⟩, trivial⟩ (by repeat' first | exact trivial | refine ⟨?_, ?_⟩) (impl_ValidCurve_ok_fr n (SCurve.mk x61.Currents x61.Times) hx96) ?_
                      rintro r0 o0 n0 ⟨rfl, rfl, rfl⟩ -
                      refine awl_val hτ rfl rfl rfl ?_
                      refine awl_val hτ rfl rfl rfl ?_
                      refine awl_split 171 rfl (fun hb97 => ?_) (fun hb97 => ?_)
                      · have h := if_bt h hb97
                        refine awl_val hτ rfl rfl rfl ?_
                        refine awl_val hτ rfl rfl rfl ?_
                        refine awl_weak (weak_ofP [0, 1, 2] (l := [(5, .ptr 0 0), (6, .d (.int .i64 (x61.Currents.length : Int))), (12, .d (.fl .f32 x77.1)), (14, .d (.fl .f32 x78.1)), (18, .d (.fl .f32 x80.1)), (171, .d (.bool true)), (172, .agg [.row 1 x61.Currents.length 0 x61.Currents.length, .row 2 x61.Times.length 0 x61.Times.length]), (173, .agg [.row 1 x61.Currents.length 0 x61.Currents.length, .row 2 x61.Times.length 0 x61.Times.length])]) (objs := [.box [.row 1 x61.Currents.length 0 x61.Currents.length, .row 2 x61.Times.length 0 x61.Times.length], .row 1 (x61.Currents.map eNatf32), .row 1 (x61.Times.map eNatf32)]) rfl (by simp) rfl (by repeat' first | exact trivial | refine ⟨?_, ?_⟩) ⟨rfl, trivial, rfl, trivial, rfl, trivial, rfl, trivial, rfl, trivial, rfl, trivial, rfl, (by repeat' first | exact trivial | refine ⟨?_, ?_⟩), rfl, (by repeat' first | exact trivial | refine ⟨?_, ?_⟩), trivial⟩) ?_
                        refine bnd_elim h fun x98 hx98 h => ?_
                        refine awl_callP hτ true [] rfl rfl rfl (enterOk func34 rfl rfl) (mapO_cons (exV_agg (mapO_cons (exC_view (f := eNatf32) x61.Currents rfl rfl rfl) (mapO_cons (exC_view (f := eNatf32) x61.Times rfl rfl rfl) mapO_nil))) (mapO_cons (exV_agg (mapO_cons (exC_view (f := eNatf32) x61.Currents rfl rfl rfl) (mapO_cons (exC_view (f := eNatf32) x61.Times rfl rfl rfl) mapO_nil))) mapO_nil)) rfl (by simp) ⟨⟨(exP_view (f := eNatf32) x61.Currents rfl rfl rfl), (exP_view (f := eNatf32) x61.Times rfl rfl rfl)⟩, ⟨(exP_view (f := eNatf32) x61.Currents rfl rfl rfl), (exP_view (f := eNatf32) x61.Times rfl rfl rfl)⟩, trivial⟩ (by repeat' first | exact trivial | refine ⟨?_, ?_⟩) (impl_SameCurve_ok_fr n (SCurve.mk x61.Currents x61.Times) (SCurve.mk x61.Currents x61.Times) hx98) ?_
                        rintro r0 o0 n0 ⟨rfl, rfl, rfl⟩ -
                        refine awl_val hτ rfl rfl rfl ?_
                        refine awl_val hτ rfl rfl rfl ?_
                        refine awl_split 176 rfl (fun hb99 => ?_) (fun hb99 => ?_)
                        · have h := if_bt h hb99
                          refine awl_val hτ rfl rfl rfl ?_
                          refine awl_val hτ rfl rfl rfl ?_
                          refine awl_val hτ rfl rfl rfl ?_
                          refine awl_val hτ rfl rfl rfl ?_
                          refine awl_val hτ rfl rfl rfl ?_
                          refine awl_val hτ rfl rfl rfl ?_
                          refine awl_split 182 rfl (fun hb100 => ?_) (fun hb100 => ?_)
                          · have h := if_bt h hb100
                            refine awl_val hτ rfl rfl rfl ?_
                            refine awl_val hτ rfl rfl rfl ?_
                            refine awl_val hτ rfl rfl rfl ?_
                            refine awl_weak (weak_ofP [0, 1, 2] (l := [(5, .ptr 0 0), (6, .d (.int .i64 (x61.Currents.length : Int))), (12, .d (.fl .f32 x77.1)), (14, .d (.fl .f32 x78.1)), (18, .d (.fl .f32 x80.1)), (182, .d (.bool true)), (183, .d (.fl .f32 x77.1)), (185, .row 2 x61.Times.length 0 x61.Times.length)]) (objs := [.box [.row 1 x61.Currents.length 0 x61.Currents.length, .row 2 x61.Times.length 0 x61.Times.length], .row 1 (x61.Currents.map eNatf32), .row 1 (x61.Times.map eNatf32)]) rfl (by simp) rfl (by repeat' first | exact trivial | refine ⟨?_, ?_⟩) ⟨rfl, trivial, rfl, trivial, rfl, trivial, rfl, trivial, rfl, trivial, rfl, trivial, rfl, trivial, rfl, trivial, trivial⟩) ?_
                            refine bnd_elim h fun x101 hx101 h => ?_
                            refine awl_need hτ rfl rfl rfl (row_need hx101) ?_
                            refine awl_elem hτ rfl rfl rfl (len_map _) (row_get hx101) rfl ?_
                            refine awl_val hτ rfl rfl rfl ?_
                            refine awl_val hτ rfl rfl rfl ?_
                            refine awl_val hτ rfl rfl rfl ?_
                            refine awl_val hτ rfl rfl rfl ?_
                            refine awl_split 191 rfl (fun hb102 => ?_) (fun hb102 => ?_)
                            · have h := if_bt h hb102
                              refine awl_val hτ rfl rfl rfl ?_
                              refine awl_val hτ rfl rfl rfl ?_
                              refine awl_val hτ rfl rfl rfl ?_
                              refine awl_val hτ rfl rfl rfl ?_
                              refine awl_val hτ rfl rfl rfl ?_
                              refine bnd_elim h fun x103 hx103 h => ?_
                              refine awl_need hτ rfl rfl rfl (row_need hx103) ?_
                              refine awl_weak (weak_ofP [2] (l := [(12, .d (.fl .f32 x77.1)), (18, .d (.fl .f32 x80.1)), (191, .d (.bool true)), (192, .d (.fl .f32 x78.1)), (197, .eptr 0 x61.Times.length (0 + (w64 ((x61.Currents.length : Int) - (1 : Int))).toNat) 0)]) (objs := [.row 1 (x61.Times.map eNatf32)]) rfl (by simp) rfl (by repeat' first | exact trivial | refine ⟨?_, ?_⟩) ⟨rfl, trivial, rfl, trivial, rfl, trivial, rfl, trivial, rfl, trivial, trivial⟩) ?_
                              refine awl_elem hτ rfl rfl rfl (len_map _) (row_get hx103) rfl ?_
                              refine awl_val hτ rfl rfl rfl ?_
                              refine awl_val hτ rfl rfl rfl ?_
                              refine awl_val hτ rfl rfl rfl ?_
                              refine awl_val hτ rfl rfl rfl ?_
                              refine awl_split 202 rfl (fun hb104 => ?_) (fun hb104 => ?_)
                              · have h := if_bt h hb104
                                refine awl_val hτ rfl rfl rfl ?_
                                refine awl_val hτ rfl rfl rfl ?_
                                refine awl_val hτ rfl rfl rfl ?_
                                refine awl_val hτ rfl rfl rfl ?_
                                refine awl_val hτ rfl rfl rfl ?_
                                refine awl_val hτ rfl rfl rfl ?_
                                refine awl_nil ?_
                                refine aw_weak (weak_ofP [] (l := [(4, .d (.bool (fcmp .eql .f32 x80.1 (farith .mul .f32 (1073741824 : Nat) x77.1))))]) (objs := []) rfl (by simp) rfl (by repeat' first | exact trivial | refine ⟨?_, ?_⟩) ⟨rfl, trivial, trivial⟩) ?_
                                refine aw_ret ?_
                                have hr := Option.some.inj h
                                subst hr
                                exact ret_objs (.inr rfl) [] (objs' := []) (new := []) rfl (by simp) (by simp) rfl (by repeat' first | exact trivial | refine ⟨?_, ?_⟩) rfl rfl (by repeat' first | exact trivial | refine ⟨?_, ?_⟩) (fun _ => ⟨by simp [V.flat, V.flatA, V.flatC, D.flat], flat_nil⟩) ⟨rfl, rfl, rfl⟩
                              · have h := if_bf h hb104
                                refine awl_skip rfl rfl ?_
                                refine awl_skip rfl rfl ?_
                                refine awl_skip rfl rfl ?_
                                refine awl_skip rfl rfl ?_
                                refine awl_val hτ rfl rfl rfl ?_
                                refine awl_val hτ rfl rfl rfl ?_
                                refine awl_nil ?_
                                refine aw_weak (weak_ofP [] (l := [(4, .d (.bool false))]) (objs := []) rfl (by simp) rfl (by repeat' first | exact trivial | refine ⟨?_, ?_⟩) ⟨rfl, trivial, trivial⟩) ?_
                                refine aw_ret ?_
                                have hr := Option.some.inj h
                                subst hr
                                exact ret_objs (.inr rfl) [] (objs' := []) (new := []) rfl (by simp) (by simp) rfl (by repeat' first | exact trivial | refine ⟨?_, ?_⟩) rfl rfl (by repeat' first | exact trivial | refine ⟨?_, ?_⟩) (fun _ => ⟨by simp [V.flat, V.flatA, V.flatC, D.flat], flat_nil⟩) ⟨rfl, rfl, rfl⟩
                            · have h := if_bf h hb102
                              refine awl_skip rfl rfl ?_
                              refine awl_skip rfl rfl ?_
                              refine awl_skip rfl rfl ?_
                              refine awl_skip rfl rfl ?_
                              refine awl_skip rfl rfl ?_
                              refine awl_skip rfl rfl ?_
                              refine awl_weak (weak_ofP [] (l := [(12, .d (.fl .f32 x77.1)), (18, .d (.fl .f32 x80.1)), (191, .d (.bool false)), (192, .und), (197, .und)]) (objs := []) rfl (by simp) rfl (by repeat' first | exact trivial | refine ⟨?_, ?_⟩) ⟨rfl, trivial, rfl, trivial, rfl, trivial, rfl, trivial, rfl, trivial, trivial⟩) ?_
                              refine awl_skip rfl rfl ?_
                              refine awl_skip rfl rfl ?_
                              refine awl_skip rfl rfl ?_
                              refine awl_val hτ rfl rfl rfl ?_
                              refine awl_val hτ rfl rfl rfl ?_
                              refine awl_skip rfl rfl ?_
                              refine awl_skip rfl rfl ?_
                              refine awl_skip rfl rfl ?_
                              refine awl_skip rfl rfl ?_
                              refine awl_val hτ rfl rfl rfl ?_
                              refine awl_val hτ rfl rfl rfl ?_
                              refine awl_nil ?_
                              refine aw_weak (weak_ofP [] (l := [(4, .d (.bool false))]) (objs := []) rfl (by simp) rfl (by repeat' first | exact trivial | refine ⟨?_, ?_⟩) ⟨rfl, trivial, trivial⟩) ?_
                              refine aw_ret ?_
                              have hr := Option.some.inj h
                              subst hr
                              exact ret_objs (.inr rfl) [] (objs' := []) (new := []) rfl (by simp) (by simp) rfl (by repeat' first | exact trivial | refine ⟨?_, ?_⟩) rfl rfl (by repeat' first | exact trivial | refine ⟨?_, ?_⟩) (fun _ => ⟨by simp [V.flat, V.flatA, V.flatC, D.flat], flat_nil⟩) ⟨rfl, rfl, rfl⟩
                          · have h := if_bf h hb100
                            refine awl_skip rfl rfl ?_
                            refine awl_skip rfl rfl ?_
                            refine awl_skip rfl rfl ?_
                            refine awl_weak (weak_ofP [0, 1, 2] (l := [(5, .ptr 0 0), (6, .d (.int .i64 (x61.Currents.length : Int))), (12, .d (.fl .f32 x77.1)), (14, .d (.fl .f32 x78.1)), (18, .d (.fl .f32 x80.1)), (182, .d (.bool false)), (183, .und), (185, .und)]) (objs := [.box [.row 1 x61.Currents.length 0 x61.Currents.length, .row 2 x61.Times.length 0 x61.Times.length], .row 1 (x61.Currents.map eNatf32), .row 1 (x61.Times.map eNatf32)]) rfl (by simp) rfl (by repeat' first | exact trivial | refine ⟨?_, ?_⟩) ⟨rfl, trivial, rfl, trivial, rfl, trivial, rfl, trivial, rfl, trivial, rfl, trivial, rfl, trivial, rfl, trivial, trivial⟩) ?_
                            refine awl_skip rfl rfl ?_
                            refine awl_skip rfl rfl ?_
                            refine awl_skip rfl rfl ?_
                            refine awl_skip rfl rfl ?_
                            refine awl_val hτ rfl rfl rfl ?_
                            refine awl_val hτ rfl rfl rfl ?_
                            refine awl_skip rfl rfl ?_
                            refine awl_skip rfl rfl ?_
                            refine awl_skip rfl rfl ?_
                            refine awl_skip rfl rfl ?_
                            refine awl_skip rfl rfl ?_
                            refine awl_skip rfl rfl ?_
                            refine awl_weak (weak_ofP [] (l := [(12, .d (.fl .f32 x77.1)), (18, .d (.fl .f32 x80.1)), (191, .d (.bool false)), (192, .und), (197, .und)]) (objs := []) rfl (by simp) rfl (by repeat' first | exact trivial | refine ⟨?_, ?_⟩) ⟨rfl, trivial, rfl, trivial, rfl, trivial, rfl, trivial, rfl, trivial, trivial⟩) ?_
                            refine awl_skip rfl rfl ?_
                            refine awl_skip rfl rfl ?_
                            refine awl_skip rfl rfl ?_
                            refine awl_val hτ rfl rfl rfl ?_
                            refine awl_val hτ rfl rfl rfl ?_
                            refine awl_skip rfl rfl ?_
                            refine awl_skip rfl rfl ?_
                            refine awl_skip rfl rfl ?_
                            refine awl_skip rfl rfl ?_
                            refine awl_val hτ rfl rfl rfl ?_
                            refine awl_val hτ rfl rfl rfl ?_
                            refine awl_nil ?_
                            refine aw_weak (weak_ofP [] (l := [(4, .d (.bool false))]) (objs := []) rfl (by simp) rfl (by repeat' first | exact trivial | refine ⟨?_, ?_⟩) ⟨rfl, trivial, trivial⟩) ?_
                            refine aw_ret ?_
                            have hr := Option.some.inj h
                            subst hr
                            exact ret_objs (.inr rfl) [] (objs' := []) (new := []) rfl (by simp) (by simp) rfl (by repeat' first | exact trivial | refine ⟨?_, ?_⟩) rfl rfl (by repeat' first | exact trivial | refine ⟨?_, ?_⟩) (fun _ => ⟨by simp [V.flat, V.flatA, V.flatC, D.flat], flat_nil⟩) ⟨rfl, rfl, rfl⟩
                        · have h := if_bf h hb99
                          refine awl_skip rfl rfl ?_
                          refine awl_skip rfl rfl ?_
                          refine awl_skip rfl rfl ?_
                          refine awl_skip rfl rfl ?_
                          refine awl_val hτ rfl rfl rfl ?_
                          refine awl_val hτ rfl rfl rfl ?_
                          refine awl_skip rfl rfl ?_
                          refine awl_skip rfl rfl ?_
                          refine awl_skip rfl rfl ?_
                          refine awl_weak (weak_ofP [0, 1, 2] (l := [(5, .ptr 0 0), (6, .d (.int .i64 (x61.Currents.length : Int))), (12, .d (.fl .f32 x77.1)), (14, .d (.fl .f32 x78.1)), (18, .d (.fl .f32 x80.1)), (182, .d (.bool false)), (183, .und), (185, .und)]) (objs := [.box [.row 1 x61.Currents.length 0 x61.Currents.length, .row 2 x61.Times.length 0 x61.Times.length], .row 1 (x61.Currents.map eNatf32), .row 1 (x61.Times.map eNatf32)]) rfl (by simp) rfl (by repeat' first | exact trivial | refine ⟨?_, ?_⟩) ⟨rfl, trivial, rfl, trivial, rfl, trivial, rfl, trivial, rfl, trivial, rfl, trivial, rfl, trivial, rfl, trivial, trivial⟩) ?_
                          refine awl_skip rfl rfl ?_
                          refine awl_skip rfl rfl ?_
                          refine awl_skip rfl rfl ?_
                          refine awl_skip rfl rfl ?_
                          refine awl_val hτ rfl rfl rfl ?_
                          refine awl_val hτ rfl rfl rfl ?_
                          refine awl_skip rfl rfl ?_
                          refine awl_skip rfl rfl ?_
                          refine awl_skip rfl rfl ?_
                          refine awl_skip rfl rfl ?_
                          refine awl_skip rfl rfl ?_
                          refine awl_skip rfl rfl ?_
                          refine awl_weak (weak_ofP [] (l := [(12, .d (.fl .f32 x77.1)), (18, .d (.fl .f32 x80.1)), (191, .d (.bool false)), (192, .und), (197, .und)]) (objs := []) rfl (by simp) rfl (by repeat' first | exact trivial | refine ⟨?_, ?_⟩) ⟨rfl, trivial, rfl, trivial, rfl, trivial, rfl, trivial, rfl, trivial, trivial⟩) ?_
                          refine awl_skip rfl rfl ?_
                          refine awl_skip rfl rfl ?_
                          refine awl_skip rfl rfl ?_
                          refine awl_val hτ rfl rfl rfl ?_
                          refine awl_val hτ rfl rfl rfl ?_
                          refine awl_skip rfl rfl ?_
                          refine awl_skip rfl rfl ?_
                          refine awl_skip rfl rfl ?_
                          refine awl_skip rfl rfl ?_
                          refine awl_val hτ rfl rfl rfl ?_
                          refine awl_val hτ rfl rfl rfl ?_
                          refine awl_nil ?_
                          refine aw_weak (weak_ofP [] (l := [(4, .d (.bool false))]) (objs := []) rfl (by simp) rfl (by repeat' first | exact trivial | refine ⟨?_, ?_⟩) ⟨rfl, trivial, trivial⟩) ?_
                          refine aw_ret ?_
                          have hr := Option.some.inj h
                          subst hr
                          exact ret_objs (.inr rfl) [] (objs' := []) (new := []) rfl (by simp) (by simp) rfl (by repeat' first | exact trivial | refine ⟨?_, ?_⟩) rfl rfl (by repeat' first | exact trivial | refine ⟨?_, ?_⟩) (fun _ => ⟨by simp [V.flat, V.flatA, V.flatC, D.flat], flat_nil⟩) ⟨rfl, rfl, rfl⟩
                      · have h := if_bf h hb97
                        refine awl_skip rfl rfl ?_
                        refine awl_skip rfl rfl ?_
                        refine awl_skip rfl rfl ?_
                        refine awl_val hτ rfl rfl rfl ?_
                        refine awl_val hτ rfl rfl rfl ?_
                        refine awl_skip rfl rfl ?_
                        refine awl_skip rfl rfl ?_
                        refine awl_skip rfl rfl ?_
                        refine awl_skip rfl rfl ?_
                        refine awl_weak (weak_ofP [0, 1, 2] (l := [(5, .ptr 0 0), (6, .d (.int .i64 (x61.Currents.length : Int))), (12, .d (.fl .f32 x77.1)), (14, .d (.fl .f32 x78.1)), (18, .d (.fl .f32 x80.1)), (176, .d (.bool false)), (180, .und)]) (objs := [.box [.row 1 x61.Currents.length 0 x61.Currents.length, .row 2 x61.Times.length 0 x61.Times.length], .row 1 (x61.Currents.map eNatf32), .row 1 (x61.Times.map eNatf32)]) rfl (by simp) rfl (by repeat' first | exact trivial | refine ⟨?_, ?_⟩) ⟨rfl, trivial, rfl, trivial, rfl, trivial, rfl, trivial, rfl, trivial, rfl, trivial, rfl, trivial, trivial⟩) ?_
                        refine awl_val hτ rfl rfl rfl ?_
                        refine awl_val hτ rfl rfl rfl ?_
                        refine awl_skip rfl rfl ?_
                        refine awl_skip rfl rfl ?_
                        refine awl_skip rfl rfl ?_
                        refine awl_skip rfl rfl ?_
                        refine awl_skip rfl rfl ?_
                        refine awl_skip rfl rfl ?_
                        refine awl_skip rfl rfl ?_
                        refine awl_val hτ rfl rfl rfl ?_
                        refine awl_val hτ rfl rfl rfl ?_
                        refine awl_skip rfl rfl ?_
                        refine awl_weak (weak_ofP [0, 1, 2] (l := [(5, .ptr 0 0), (6, .d (.int .i64 (x61.Currents.length : Int))), (12, .d (.fl .f32 x77.1)), (18, .d (.fl .f32 x80.1)), (191, .d (.bool false)), (192, .und)]) (objs := [.box [.row 1 x61.Currents.length 0 x61.Currents.length, .row 2 x61.Times.length 0 x61.Times.length], .row 1 (x61.Currents.map eNatf32), .row 1 (x61.Times.map eNatf32)]) rfl (by simp) rfl (by repeat' first | exact trivial | refine ⟨?_, ?_⟩) ⟨rfl, trivial, rfl, trivial, rfl, trivial, rfl, trivial, rfl, trivial, rfl, trivial, trivial⟩) ?_
                        refine awl_skip rfl rfl ?_
                        refine awl_skip rfl rfl ?_
                        refine awl_skip rfl rfl ?_
                        refine awl_skip rfl rfl ?_
                        refine awl_skip rfl rfl ?_
                        refine awl_skip rfl rfl ?_
                        refine awl_skip rfl rfl ?_
                        refine awl_skip rfl rfl ?_
                        refine awl_val hτ rfl rfl rfl ?_
                        refine awl_val hτ rfl rfl rfl ?_
                        refine awl_skip rfl rfl ?_
                        refine awl_skip rfl rfl ?_
                        refine awl_weak (weak_ofP [] (l := [(202, .d (.bool false)), (203, .und), (204, .und)]) (objs := []) rfl (by simp) rfl (by repeat' first | exact trivial | refine ⟨?_, ?_⟩) ⟨rfl, trivial, rfl, trivial, rfl, trivial, trivial⟩) ?_
                        refine awl_skip rfl rfl ?_
                        refine awl_skip rfl rfl ?_
                        refine awl_val hτ rfl rfl rfl ?_
                        refine awl_val hτ rfl rfl rfl ?_
                        refine awl_nil ?_
                        refine aw_weak (weak_ofP [] (l := [(4, .d (.bool false))]) (objs := []) rfl (by simp) rfl (by repeat' first | exact trivial | refine ⟨?_, ?_⟩) ⟨rfl, trivial, trivial⟩) ?_
                        refine aw_ret ?_
                        have hr := Option.some.inj h
                        subst hr
                        exact ret_objs (.inr rfl) [] (objs' := []) (new := []) rfl (by simp) (by simp) rfl (by repeat' first | exact trivial | refine ⟨?_, ?_⟩) rfl rfl (by repeat' first | exact trivial | refine ⟨?_, ?_⟩) (fun _ => ⟨by simp [V.flat, V.flatA, V.flatC, D.flat], flat_nil⟩) ⟨rfl, rfl, rfl⟩
                    · have h := if_bf h hb95
                      refine awl_skip rfl rfl ?_
                      refine awl_skip rfl rfl ?_
                      refine awl_weak (weak_ofP [0, 1, 2] (l := [(5, .ptr 0 0), (6, .d (.int .i64 (x61.Currents.length : Int))), (12, .d (.fl .f32 x77.1)), (14, .d (.fl .f32 x78.1)), (18, .d (.fl .f32 x80.1)), (167, .d (.bool false)), (169, .und)]) (objs := [.box [.row 1 x61.Currents.length 0 x61.Currents.length, .row 2 x61.Times.length 0 x61.Times.length], .row 1 (x61.Currents.map eNatf32), .row 1 (x61.Times.map eNatf32)]) rfl (by simp) rfl (by repeat' first | exact trivial | refine ⟨?_, ?_⟩) ⟨rfl, trivial, rfl, trivial, rfl, trivial, rfl, trivial, rfl, trivial, rfl, trivial, rfl, trivial, trivial⟩) ?_
                      refine awl_val hτ rfl rfl rfl ?_
                      refine awl_val hτ rfl rfl rfl ?_
                      refine awl_skip rfl rfl ?_
                      refine awl_skip rfl rfl ?_
                      refine awl_skip rfl rfl ?_
                      refine awl_val hτ rfl rfl rfl ?_
                      refine awl_val hτ rfl rfl rfl ?_
                      refine awl_skip rfl rfl ?_
                      refine awl_skip rfl rfl ?_
                      refine awl_skip rfl rfl ?_
                      refine awl_skip rfl rfl ?_
                      refine awl_val hτ rfl rfl rfl ?_
                      refine awl_weak (weak_ofP [0, 1, 2] (l := [(5, .ptr 0 0), (6, .d (.int .i64 (x61.Currents.length : Int))), (12, .d (.fl .f32 x77.1)), (14, .d (.fl .f32 x78.1)), (18, .d (.fl .f32 x80.1)), (181, .d (.bool false))]) (objs := [.box [.row 1 x61.Currents.length 0 x61.Currents.length, .row 2 x61.Times.length 0 x61.Times.length], .row 1 (x61.Currents.map eNatf32), .row 1 (x61.Times.map eNatf32)]) rfl (by simp) rfl (by repeat' first | exact trivial | refine ⟨?_, ?_⟩) ⟨rfl, trivial, rfl, trivial, rfl, trivial, rfl, trivial, rfl, trivial, rfl, trivial, trivial⟩) ?_
                      refine awl_val hτ rfl rfl rfl ?_
                      refine awl_skip rfl rfl ?_
                      refine awl_skip rfl rfl ?_
                      refine awl_skip rfl rfl ?_
                      refine awl_skip rfl rfl ?_
                      refine awl_skip rfl rfl ?_
                      refine awl_skip rfl rfl ?_
                      refine awl_skip rfl rfl ?_
                      refine awl_val hτ rfl rfl rfl ?_
                      refine awl_val hτ rfl rfl rfl ?_
                      refine awl_skip rfl rfl ?_
                      refine awl_skip rfl rfl ?_
                      refine awl_weak (weak_ofP [] (l := [(6, .d (.int .i64 (x61.Currents.length : Int))), (12, .d (.fl .f32 x77.1)), (18, .d (.fl .f32 x80.1)), (191, .d (.bool false)), (192, .und), (193, .und)]) (objs := []) rfl (by simp) rfl (by repeat' first | exact trivial | refine ⟨?_, ?_⟩) ⟨rfl, trivial, rfl, trivial, rfl, trivial, rfl, trivial, rfl, trivial, rfl, trivial, trivial⟩) ?_
                      refine awl_skip rfl rfl ?_
                      refine awl_skip rfl rfl ?_
                      refine awl_skip rfl rfl ?_
                      refine awl_skip rfl rfl ?_
                      refine awl_skip rfl rfl ?_
                      refine awl_skip rfl rfl ?_
                      refine awl_skip rfl rfl ?_
                      refine awl_val hτ rfl rfl rfl ?_
                      refine awl_val hτ rfl rfl rfl ?_
                      refine awl_skip rfl rfl ?_
                      refine awl_skip rfl rfl ?_
                      refine awl_skip rfl rfl ?_
                      refine awl_weak (weak_ofP [] (l := [(202, .d (.bool false)), (203, .und), (205, .und)]) (objs := []) rfl (by simp) rfl (by repeat' first | exact trivial | refine ⟨?_, ?_⟩) ⟨rfl, trivial, rfl, trivial, rfl, trivial, trivial⟩) ?_
                      refine awl_skip rfl rfl ?_
                      refine awl_val hτ rfl rfl rfl ?_
                      refine awl_val hτ rfl rfl rfl ?_
                      refine awl_nil ?_
                      refine aw_weak (weak_ofP [] (l := [(4, .d (.bool false))]) (objs := []) rfl (by simp) rfl (by repeat' first | exact trivial | refine ⟨?_, ?_⟩) ⟨rfl, trivial, trivial⟩) ?_
                      refine aw_ret ?_
                      have hr := Option.some.inj h
                      subst hr
                      exact ret_objs (.inr rfl) [] (objs' := []) (new := []) rfl (by simp) (by simp) rfl (by repeat' first | exact trivial | refine ⟨?_, ?_⟩) rfl rfl (by repeat' first | exact trivial | refine ⟨?_, ?_⟩) (fun _ => ⟨by simp [V.flat, V.flatA, V.flatC, D.flat], flat_nil⟩) ⟨rfl, rfl, rfl⟩
                  · have h := if_bf h hb94
                    refine awl_skip rfl rfl ?_
                    refine awl_skip rfl rfl ?_
                    refine awl_val hτ rfl rfl rfl ?_
                    refine awl_val hτ rfl rfl rfl ?_
                    refine awl_skip rfl rfl ?_
                    refine awl_skip rfl rfl ?_
                    refine awl_weak (weak_ofP [0, 1, 2] (l := [(5, .ptr 0 0), (6, .d (.int .i64 (x61.Currents.length : Int))), (12, .d (.fl .f32 x77.1)), (14, .d (.fl .f32 x78.1)), (18, .d (.fl .f32 x80.1)), (167, .d (.bool false)), (169, .und)]) (objs := [.box [.row 1 x61.Currents.length 0 x61.Currents.length, .row 2 x61.Times.length 0 x61.Times.length], .row 1 (x61.Currents.map eNatf32), .row 1 (x61.Times.map eNatf32)]) rfl (by simp) rfl (by repeat' first | exact trivial | refine ⟨?_, ?_⟩) ⟨rfl, trivial, rfl, trivial, rfl, trivial, rfl, trivial, rfl, trivial, rfl, trivial, rfl, trivial, trivial⟩) ?_
                    refine awl_val hτ rfl rfl rfl ?_
                    refine awl_val hτ rfl rfl rfl ?_
                    refine awl_skip rfl rfl ?_
                    refine awl_skip rfl rfl ?_
                    refine awl_skip rfl rfl ?_
                    refine awl_val hτ rfl rfl rfl ?_
                    refine awl_val hτ rfl rfl rfl ?_
                    refine awl_skip rfl rfl ?_
                    refine awl_skip rfl rfl ?_
                    refine awl_skip rfl rfl ?_
                    refine awl_skip rfl rfl ?_
                    refine awl_val hτ rfl rfl rfl ?_
                    refine awl_weak (weak_ofP [0, 1, 2] (l := [(5, .ptr 0 0), (6, .d (.int .i64 (x61.Currents.length : Int))), (12, .d (.fl .f32 x77.1)), (14, .d (.fl .f32 x78.1)), (18, .d (.fl .f32 x80.1)), (181, .d (.bool false))]) (objs := [.box [.row 1 x61.Currents.length 0 x61.Currents.length, .row 2 x61.Times.length 0 x61.Times.length], .row 1 (x61.Currents.map eNatf32), .row 1 (x61.Times.map eNatf32)]) rfl (by simp) rfl (by repeat' first | exact trivial | refine ⟨?_, ?_⟩) ⟨rfl, trivial, rfl, trivial, rfl, trivial, rfl, trivial, rfl, trivial, rfl, trivial, trivial⟩) ?_
                    refine awl_val hτ rfl rfl rfl ?_
                    refine awl_skip rfl rfl ?_
                    refine awl_skip rfl rfl ?_
                    refine awl_skip rfl rfl ?_
                    refine awl_skip rfl rfl ?_
                    refine awl_skip rfl rfl ?_
                    refine awl_skip rfl rfl ?_
                    refine awl_skip rfl rfl ?_
                    refine awl_val hτ rfl rfl rfl ?_
                    refine awl_val hτ rfl rfl rfl ?_
                    refine awl_skip rfl rfl ?_
                    refine awl_skip rfl rfl ?_
                    refine awl_weak (weak_ofP [] (l := [(6, .d (.int .i64 (x61.Currents.length : Int))), (12, .d (.fl .f32 x77.1)), (18, .d (.fl .f32 x80.1)), (191, .d (.bool false)), (192, .und), (193, .und)]) (objs := []) rfl (by simp) rfl (by repeat' first | exact trivial | refine ⟨?_, ?_⟩) ⟨rfl, trivial, rfl, trivial, rfl, trivial, rfl, trivial, rfl, trivial, rfl, trivial, trivial⟩) ?_
                    refine awl_skip rfl rfl ?_
                    refine awl_skip rfl rfl ?_
                    refine awl_skip rfl rfl ?_
                    refine awl_skip rfl rfl ?_
                    refine awl_skip rfl rfl ?_
                    refine awl_skip rfl rfl ?_
                    refine awl_skip rfl rfl ?_
                    refine awl_val hτ rfl rfl rfl ?_
                    refine awl_val hτ rfl rfl rfl ?_
                    refine awl_skip rfl rfl ?_
                    refine awl_skip rfl rfl ?_
                    refine awl_skip rfl rfl ?_
                    refine awl_weak (weak_ofP [] (l := [(202, .d (.bool false)), (203, .und), (205, .und)]) (objs := []) rfl (by simp) rfl (by repeat' first | exact trivial | refine ⟨?_, ?_⟩) ⟨rfl, trivial, rfl, trivial, rfl, trivial, trivial⟩) ?_
                    refine awl_skip rfl rfl ?_
                    refine awl_val hτ rfl rfl rfl ?_
                    refine awl_val hτ rfl rfl rfl ?_
                    refine awl_nil ?_
                    refine aw_weak (weak_ofP [] (l := [(4, .d (.bool false))]) (objs := []) rfl (by simp) rfl (by repeat' first | exact trivial | refine ⟨?_, ?_⟩) ⟨rfl, trivial, trivial⟩) ?_
                    refine aw_ret ?_
                    have hr := Option.some.inj h
                    subst hr
                    exact ret_objs (.inr rfl) [] (objs' := []) (new := []) rfl (by simp) (by simp) rfl (by repeat' first | exact trivial | refine ⟨?_, ?_⟩) rfl rfl (by repeat' first | exact trivial | refine ⟨?_, ?_⟩) (fun _ => ⟨by simp [V.flat, V.flatA, V.flatC, D.flat], flat_nil⟩) ⟨rfl, rfl, rfl⟩
                · have hb93 := not_f hb93
                  have h := if_bt h hb93
                  refine awl_skip rfl rfl ?_
                  refine awl_val hτ rfl rfl rfl ?_
                  refine awl_val hτ rfl rfl rfl ?_
                  refine awl_skip rfl rfl ?_
                  refine awl_skip rfl rfl ?_
                  refine awl_val hτ rfl rfl rfl ?_
                  refine awl_val hτ rfl rfl rfl ?_
                  refine awl_skip rfl rfl ?_
                  refine awl_skip rfl rfl ?_
                  refine awl_weak (weak_ofP [0, 1, 2] (l := [(5, .ptr 0 0), (6, .d (.int .i64 (x61.Currents.length : Int))), (12, .d (.fl .f32 x77.1)), (14, .d (.fl .f32 x78.1)), (18, .d (.fl .f32 x80.1)), (167, .d (.bool false)), (169, .und)]) (objs := [.box [.row 1 x61.Currents.length 0 x61.Currents.length, .row 2 x61.Times.length 0 x61.Times.length], .row 1 (x61.Currents.map eNatf32), .row 1 (x61.Times.map eNatf32)]) rfl (by simp) rfl (by repeat' first | exact trivial | refine ⟨?_, ?_⟩) ⟨rfl, trivial, rfl, trivial, rfl, trivial, rfl, trivial, rfl, trivial, rfl, trivial, rfl, trivial, trivial⟩) ?_
                  refine awl_val hτ rfl rfl rfl ?_
                  refine awl_val hτ rfl rfl rfl ?_
                  refine awl_skip rfl rfl ?_
                  refine awl_skip rfl rfl ?_
                  refine awl_skip rfl rfl ?_
                  refine awl_val hτ rfl rfl rfl ?_
                  refine awl_val hτ rfl rfl rfl ?_
                  refine awl_skip rfl rfl ?_
                  refine awl_skip rfl rfl ?_
                  refine awl_skip rfl rfl ?_
                  refine awl_skip rfl rfl ?_
                  refine awl_val hτ rfl rfl rfl ?_
                  refine awl_weak (weak_ofP [0, 1, 2] (l := [(5, .ptr 0 0), (6, .d (.int .i64 (x61.Currents.length : Int))), (12, .d (.fl .f32 x77.1)), (14, .d (.fl .f32 x78.1)), (18, .d (.fl .f32 x80.1)), (181, .d (.bool false))]) (objs := [.box [.row 1 x61.Currents.length 0 x61.Currents.length, .row 2 x61.Times.length 0 x61.Times.length], .row 1 (x61.Currents.map eNatf32), .row 1 (x61.Times.map eNatf32)]) rfl (by simp) rfl (by repeat' first | exact trivial | refine ⟨?_, ?_⟩) ⟨rfl, trivial, rfl, trivial, rfl, trivial, rfl, trivial, rfl, trivial, rfl, trivial, trivial⟩) ?_
                  refine awl_val hτ rfl rfl rfl ?_
                  refine awl_skip rfl rfl ?_
                  refine awl_skip rfl rfl ?_
                  refine awl_skip rfl rfl ?_
                  refine awl_skip rfl rfl ?_
                  refine awl_skip rfl rfl ?_
                  refine awl_skip rfl rfl ?_
                  refine awl_skip rfl rfl ?_
                  refine awl_val hτ rfl rfl rfl ?_
                  refine awl_val hτ rfl rfl rfl ?_
                  refine awl_skip rfl rfl ?_
                  refine awl_skip rfl rfl ?_
                  refine awl_weak (weak_ofP [] (l := [(6, .d (.int .i64 (x61.Currents.length : Int))), (12, .d (.fl .f32 x77.1)), (18, .d (.fl .f32 x80.1)), (191, .d (.bool false)), (192, .und), (193, .und)]) (objs := []) rfl (by simp) rfl (by repeat' first | exact trivial | refine ⟨?_, ?_⟩) ⟨rfl, trivial, rfl, trivial, rfl, trivial, rfl, trivial, rfl, trivial, rfl, trivial, trivial⟩) ?_
                  refine awl_skip rfl rfl ?_
                  refine awl_skip rfl rfl ?_
                  refine awl_skip rfl rfl ?_
                  refine awl_skip rfl rfl ?_
                  refine awl_skip rfl rfl ?_
                  refine awl_skip rfl rfl ?_
                  refine awl_skip rfl rfl ?_
                  refine awl_val hτ rfl rfl rfl ?_
                  refine awl_val hτ rfl rfl rfl ?_
                  refine awl_skip rfl rfl ?_
                  refine awl_skip rfl rfl ?_
                  refine awl_skip rfl rfl ?_
                  refine awl_weak (weak_ofP [] (l := [(202, .d (.bool false)), (203, .und), (205, .und)]) (objs := []) rfl (by simp) rfl (by repeat' first | exact trivial | refine ⟨?_, ?_⟩) ⟨rfl, trivial, rfl, trivial, rfl, trivial, trivial⟩) ?_
                  refine awl_skip rfl rfl ?_
                  refine awl_val hτ rfl rfl rfl ?_
                  refine awl_val hτ rfl rfl rfl ?_
                  refine awl_nil ?_
                  refine aw_weak (weak_ofP [] (l := [(4, .d (.bool false))]) (objs := []) rfl (by simp) rfl (by repeat' first | exact trivial | refine ⟨?_, ?_⟩) ⟨rfl, trivial, trivial⟩) ?_
                  refine aw_ret ?_
                  have hr := Option.some.inj h
                  subst hr
                  exact ret_objs (.inr rfl) [] (objs' := []) (new := []) rfl (by simp) (by simp) rfl (by repeat' first | exact trivial | refine ⟨?_, ?_⟩) rfl rfl (by repeat' first | exact trivial | refine ⟨?_, ?_⟩) (fun _ => ⟨by simp [V.flat, V.flatA, V.flatC, D.flat], flat_nil⟩) ⟨rfl, rfl, rfl⟩
              · have h := if_bf h hb92
                refine awl_skip rfl rfl ?_
                refine awl_weak (weak_ofP [0, 1, 2] (l := [(5, .ptr 0 0), (6, .d (.int .i64 (x61.Currents.length : Int))), (12, .d (.fl .f32 x77.1)), (14, .d (.fl .f32 x78.1)), (18, .d (.fl .f32 x80.1)), (22, .d (.fl .f32 x82.1)), (23, .d (.bool x82.2)), (156, .d (.bool false)), (157, .und)]) (objs := [.box [.row 1 x61.Currents.length 0 x61.Currents.length, .row 2 x61.Times.length 0 x61.Times.length], .row 1 (x61.Currents.map eNatf32), .row 1 (x61.Times.map eNatf32)]) rfl (by simp) rfl (by repeat' first | exact trivial | refine ⟨?_, ?_⟩) ⟨rfl, trivial, rfl, trivial, rfl, trivial, rfl, trivial, rfl, trivial, rfl, trivial, rfl, trivial, rfl, trivial, rfl, trivial, trivial⟩) ?_
                refine awl_skip rfl rfl ?_
                refine awl_val hτ rfl rfl rfl ?_
                refine awl_val hτ rfl rfl rfl ?_
                refine awl_skip rfl rfl ?_
                refine awl_val hτ rfl rfl rfl ?_
                refine awl_val hτ rfl rfl rfl ?_
                refine awl_skip rfl rfl ?_
                refine awl_skip rfl rfl ?_
                refine awl_val hτ rfl rfl rfl ?_
                refine awl_val hτ rfl rfl rfl ?_
                refine awl_skip rfl rfl ?_
                refine awl_skip rfl rfl ?_
                refine awl_weak (weak_ofP [0, 1, 2] (l := [(5, .ptr 0 0), (6, .d (.int .i64 (x61.Currents.length : Int))), (12, .d (.fl .f32 x77.1)), (14, .d (.fl .f32 x78.1)), (18, .d (.fl .f32 x80.1)), (167, .d (.bool false)), (169, .und)]) (objs := [.box [.row 1 x61.Currents.length 0 x61.Currents.length, .row 2 x61.Times.length 0 x61.Times.length], .row 1 (x61.Currents.map eNatf32), .row 1 (x61.Times.map eNatf32)]) rfl (by simp) rfl (by repeat' first | exact trivial | refine ⟨?_, ?_⟩) ⟨rfl, trivial, rfl, trivial, rfl, trivial, rfl, trivial, rfl, trivial, rfl, trivial, rfl, trivial, trivial⟩) ?_
                refine awl_val hτ rfl rfl rfl ?_
                refine awl_val hτ rfl rfl rfl ?_
                refine awl_skip rfl rfl ?_
                refine awl_skip rfl rfl ?_
                refine awl_skip rfl rfl ?_
                refine awl_val hτ rfl rfl rfl ?_
                refine awl_val hτ rfl rfl rfl ?_
                refine awl_skip rfl rfl ?_
                refine awl_skip rfl rfl ?_
                refine awl_skip rfl rfl ?_
                refine awl_skip rfl rfl ?_
                refine awl_val hτ rfl rfl rfl ?_
                refine awl_weak (weak_ofP [0, 1, 2] (l := [(5, .ptr 0 0), (6, .d (.int .i64 (x61.Currents.length : Int))), (12, .d (.fl .f32 x77.1)), (14, .d (.fl .f32 x78.1)), (18, .d (.fl .f32 x80.1)), (181, .d (.bool false))]) (objs := [.box [.row 1 x61.Currents.length 0 x61.Currents.length, .row 2 x61.Times.length 0 x61.Times.length], .row 1 (x61.Currents.map eNatf32), .row 1 (x61.Times.map eNatf32)]) rfl (by simp) rfl (by repeat' first | exact trivial | refine ⟨?_, ?_⟩) ⟨rfl, trivial, rfl, trivial, rfl, trivial, rfl, trivial, rfl, trivial, rfl, trivial, trivial⟩) ?_
                refine awl_val hτ rfl rfl rfl ?_
                refine awl_skip rfl rfl ?_
                refine awl_skip rfl rfl ?_
                refine awl_skip rfl rfl ?_
                refine awl_skip rfl rfl ?_
                refine awl_skip rfl rfl ?_
                refine awl_skip rfl rfl ?_
                refine awl_skip rfl rfl ?_
                refine awl_val hτ rfl rfl rfl ?_
                refine awl_val hτ rfl rfl rfl ?_
                refine awl_skip rfl rfl ?_
                refine awl_skip rfl rfl ?_
                refine awl_weak (weak_ofP [] (l := [(6, .d (.int .i64 (x61.Currents.length : Int))), (12, .d (.fl .f32 x77.1)), (18, .d (.fl .f32 x80.1)), (191, .d (.bool false)), (192, .und), (193, .und)]) (objs := []) rfl (by simp) rfl (by repeat' first | exact trivial | refine ⟨?_, ?_⟩) ⟨rfl, trivial, rfl, trivial, rfl, trivial, rfl, trivial, rfl, trivial, rfl, trivial, trivial⟩) ?_
                refine awl_skip rfl rfl ?_
                refine awl_skip rfl rfl ?_
                refine awl_skip rfl rfl ?_
                refine awl_skip rfl rfl ?_
                refine awl_skip rfl rfl ?_
                refine awl_skip rfl rfl ?_
                refine awl_skip rfl rfl ?_
                refine awl_val hτ rfl rfl rfl ?_
                refine awl_val hτ rfl rfl rfl ?_
                refine awl_skip rfl rfl ?_
                refine awl_skip rfl rfl ?_
                refine awl_skip rfl rfl ?_
                refine awl_weak (weak_ofP [] (l := [(202, .d (.bool false)), (203, .und), (205, .und)]) (objs := []) rfl (by simp) rfl (by repeat' first | exact trivial | refine ⟨?_, ?_⟩) ⟨rfl, trivial, rfl, trivial, rfl, trivial, trivial⟩) ?_
                refine awl_skip rfl rfl ?_
                refine awl_val hτ rfl rfl rfl ?_
                refine awl_val hτ rfl rfl rfl ?_
                refine awl_nil ?_
                refine aw_weak (weak_ofP [] (l := [(4, .d (.bool false))]) (objs := []) rfl (by simp) rfl (by repeat' first | exact trivial | refine ⟨?_, ?_⟩) ⟨rfl, trivial, trivial⟩) ?_
                refine aw_ret ?_
                have hr := Option.some.inj h
                subst hr
                exact ret_objs (.inr rfl) [] (objs' := []) (new := []) rfl (by simp) (by simp) rfl (by repeat' first | exact trivial | refine ⟨?_, ?_⟩) rfl rfl (by repeat' first | exact trivial | refine ⟨?_, ?_⟩) (fun _ => ⟨by simp [V.flat, V.flatA, V.flatC, D.flat], flat_nil⟩) ⟨rfl, rfl, rfl⟩
            · have h := if_bf h hb91
              refine awl_skip rfl rfl ?_
              refine awl_val hτ rfl rfl rfl ?_
              refine awl_val hτ rfl rfl rfl ?_
              refine awl_skip rfl rfl ?_
              refine awl_weak (weak_ofP [0, 1, 2] (l := [(5, .ptr 0 0), (6, .d (.int .i64 (x61.Currents.length : Int))), (12, .d (.fl .f32 x77.1)), (14, .d (.fl .f32 x78.1)), (18, .d (.fl .f32 x80.1)), (22, .d (.fl .f32 x82.1)), (23, .d (.bool x82.2)), (156, .d (.bool false)), (157, .und)]) (objs := [.box [.row 1 x61.Currents.length 0 x61.Currents.length, .row 2 x61.Times.length 0 x61.Times.length], .row 1 (x61.Currents.map eNatf32), .row 1 (x61.Times.map eNatf32)]) rfl (by simp) rfl (by repeat' first | exact trivial | refine ⟨?_, ?_⟩) ⟨rfl, trivial, rfl, trivial, rfl, trivial, rfl, trivial, rfl, trivial, rfl, trivial, rfl, trivial, rfl, trivial, rfl, trivial, trivial⟩) ?_
              refine awl_skip rfl rfl ?_
              refine awl_val hτ rfl rfl rfl ?_
              refine awl_val hτ rfl rfl rfl ?_
              refine awl_skip rfl rfl ?_
              refine awl_val hτ rfl rfl rfl ?_
              refine awl_val hτ rfl rfl rfl ?_
              refine awl_skip rfl rfl ?_
              refine awl_skip rfl rfl ?_
              refine awl_val hτ rfl rfl rfl ?_
              refine awl_val hτ rfl rfl rfl ?_
              refine awl_skip rfl rfl ?_
              refine awl_skip rfl rfl ?_
              refine awl_weak (weak_ofP [0, 1, 2] (l := [(5, .ptr 0 0), (6, .d (.int .i64 (x61.Currents.length : Int))), (12, .d (.fl .f32 x77.1)), (14, .d (.fl .f32 x78.1)), (18, .d (.fl .f32 x80.1)), (167, .d (.bool false)), (169, .und)]) (objs := [.box [.row 1 x61.Currents.length 0 x61.Currents.length, .row 2 x61.Times.length 0 x61.Times.length], .row 1 (x61.Currents.map eNatf32), .row 1 (x61.Times.map eNatf32)]) rfl (by simp) rfl (by repeat' first | exact trivial | refine ⟨?_, ?_⟩) ⟨rfl, trivial, rfl, trivial, rfl, trivial, rfl, trivial, rfl, trivial, rfl, trivial, rfl, trivial, trivial⟩) ?_
              refine awl_val hτ rfl rfl rfl ?_
              refine awl_val hτ rfl rfl rfl ?_
              refine awl_skip rfl rfl ?_
              refine awl_skip rfl rfl ?_
              refine awl_skip rfl rfl ?_
              refine awl_val hτ rfl rfl rfl ?_
              refine awl_val hτ rfl rfl rfl ?_
              refine awl_skip rfl rfl ?_
              refine awl_skip rfl rfl ?_
              refine awl_skip rfl rfl ?_
              refine awl_skip rfl rfl ?_
              refine awl_val hτ rfl rfl rfl ?_
              refine awl_weak (weak_ofP [0, 1, 2] (l := [(5, .ptr 0 0), (6, .d (.int .i64 (x61.Currents.length : Int))), (12, .d (.fl .f32 x77.1)), (14, .d (.fl .f32 x78.1)), (18, .d (.fl .f32 x80.1)), (181, .d (.bool false))]) (objs := [.box [.row 1 x61.Currents.length 0 x61.Currents.length, .row 2 x61.Times.length 0 x61.Times.length], .row 1 (x61.Currents.map eNatf32), .row 1 (x61.Times.map eNatf32)]) rfl (by simp) rfl (by repeat' first | exact trivial | refine ⟨?_, ?_⟩) ⟨rfl, trivial, rfl, trivial, rfl, trivial, rfl, trivial, rfl, trivial, rfl, trivial, trivial⟩) ?_
              refine awl_val hτ rfl rfl rfl ?_
              refine awl_skip rfl rfl ?_
              refine awl_skip rfl rfl ?_
              refine awl_skip rfl rfl ?_
              refine awl_skip rfl rfl ?_
              refine awl_skip rfl rfl ?_
              refine awl_skip rfl rfl ?_
              refine awl_skip rfl rfl ?_
              refine awl_val hτ rfl rfl rfl ?_
              refine awl_val hτ rfl rfl rfl ?_
              refine awl_skip rfl rfl ?_
              refine awl_skip rfl rfl ?_
              refine awl_weak (weak_ofP [] (l := [(6, .d (.int .i64 (x61.Currents.length : Int))), (12, .d (.fl .f32 x77.1)), (18, .d (.fl .f32 x80.1)), (191, .d (.bool false)), (192, .und), (193, .und)]) (objs := []) rfl (by simp) rfl (by repeat' first | exact trivial | refine ⟨?_, ?_⟩) ⟨rfl, trivial, rfl, trivial, rfl, trivial, rfl, trivial, rfl, trivial, rfl, trivial, trivial⟩) ?_
              refine awl_skip rfl rfl ?_
              refine awl_skip rfl rfl ?_
              refine awl_skip rfl rfl ?_
              refine awl_skip rfl rfl ?_
              refine awl_skip rfl rfl ?_
              refine awl_skip rfl rfl ?_
              refine awl_skip rfl rfl ?_
              refine awl_val hτ rfl rfl rfl ?_
              refine awl_val hτ rfl rfl rfl ?_
              refine awl_skip rfl rfl ?_
              refine awl_skip rfl rfl ?_
              refine awl_skip rfl rfl ?_
              refine awl_weak (weak_ofP [] (l := [(202, .d (.bool false)), (203, .und), (205, .und)]) (objs := []) rfl (by simp) rfl (by repeat' first | exact trivial | refine ⟨?_, ?_⟩) ⟨rfl, trivial, rfl, trivial, rfl, trivial, trivial⟩) ?_
              refine awl_skip rfl rfl ?_
              refine awl_val hτ rfl rfl rfl ?_
              refine awl_val hτ rfl rfl rfl ?_
              refine awl_nil ?_
              refine aw_weak (weak_ofP [] (l := [(4, .d (.bool false))]) (objs := []) rfl (by simp) rfl (by repeat' first | exact trivial | refine ⟨?_, ?_⟩) ⟨rfl, trivial, trivial⟩) ?_
              refine aw_ret ?_
              have hr := Option.some.inj h
              subst hr
              exact ret_objs (.inr rfl) [] (objs' := []) (new := []) rfl (by simp) (by simp) rfl (by repeat' first | exact trivial | refine ⟨?_, ?_⟩) rfl rfl (by repeat' first | exact trivial | refine ⟨?_, ?_⟩) (fun _ => ⟨by simp [V.flat, V.flatA, V.flatC, D.flat], flat_nil⟩) ⟨rfl, rfl, rfl⟩
          · have h := if_bf h hb90
            refine awl_skip rfl rfl ?_
            refine awl_val hτ rfl rfl rfl ?_
            refine awl_val hτ rfl rfl rfl ?_
            refine awl_skip rfl rfl ?_
            refine awl_val hτ rfl rfl rfl ?_
            refine awl_val hτ rfl rfl rfl ?_
            refine awl_skip rfl rfl ?_
            refine awl_weak (weak_ofP [0, 1, 2] (l := [(5, .ptr 0 0), (6, .d (.int .i64 (x61.Currents.length : Int))), (12, .d (.fl .f32 x77.1)), (14, .d (.fl .f32 x78.1)), (18, .d (.fl .f32 x80.1)), (22, .d (.fl .f32 x82.1)), (23, .d (.bool x82.2)), (156, .d (.bool false)), (157, .und)]) (objs := [.box [.row 1 x61.Currents.length 0 x61.Currents.length, .row 2 x61.Times.length 0 x61.Times.length], .row 1 (x61.Currents.map eNatf32), .row 1 (x61.Times.map eNatf32)]) rfl (by simp) rfl (by repeat' first | exact trivial | refine ⟨?_, ?_⟩) ⟨rfl, trivial, rfl, trivial, rfl, trivial, rfl, trivial, rfl, trivial, rfl, trivial, rfl, trivial, rfl, trivial, rfl, trivial, trivial⟩) ?_
            refine awl_skip rfl rfl ?_
            refine awl_val hτ rfl rfl rfl ?_
            refine awl_val hτ rfl rfl rfl ?_
            refine awl_skip rfl rfl ?_
            refine awl_val hτ rfl rfl rfl ?_
            refine awl_val hτ rfl rfl rfl ?_
            refine awl_skip rfl rfl ?_
            refine awl_skip rfl rfl ?_
            refine awl_val hτ rfl rfl rfl ?_
            refine awl_val hτ rfl rfl rfl ?_
            refine awl_skip rfl rfl ?_
            refine awl_skip rfl rfl ?_
            refine awl_weak (weak_ofP [0, 1, 2] (l := [(5, .ptr 0 0), (6, .d (.int .i64 (x61.Currents.length : Int))), (12, .d (.fl .f32 x77.1)), (14, .d (.fl .f32 x78.1)), (18, .d (.fl .f32 x80.1)), (167, .d (.bool false)), (169, .und)]) (objs := [.box [.row 1 x61.Currents.length 0 x61.Currents.length, .row 2 x61.Times.length 0 x61.Times.length], .row 1 (x61.Currents.map eNatf32), .row 1 (x61.Times.map eNatf32)]) rfl (by simp) rfl (by repeat' first | exact trivial | refine ⟨?_, ?_⟩) ⟨rfl, trivial, rfl, trivial, rfl, trivial, rfl, trivial, rfl, trivial, rfl, trivial, rfl, trivial, trivial⟩) ?_
            refine awl_val hτ rfl rfl rfl ?_
            refine awl_val hτ rfl rfl rfl ?_
            refine awl_skip rfl rfl ?_
            refine awl_skip rfl rfl ?_
            refine awl_skip rfl rfl ?_
            refine awl_val hτ rfl rfl rfl ?_
            refine awl_val hτ rfl rfl rfl ?_
            refine awl_skip rfl rfl ?_
            refine awl_skip rfl rfl ?_
            refine awl_skip rfl rfl ?_
            refine awl_skip rfl rfl ?_
            refine awl_val hτ rfl rfl rfl ?_
            refine awl_weak (weak_ofP [0, 1, 2] (l := [(5, .ptr 0 0), (6, .d (.int .i64 (x61.Currents.length : Int))), (12, .d (.fl .f32 x77.1)), (14, .d (.fl .f32 x78.1)), (18, .d (.fl .f32 x80.1)), (181, .d (.bool false))]) (objs := [.box [.row 1 x61.Currents.length 0 x61.Currents.length, .row 2 x61.Times.length 0 x61.Times.length], .row 1 (x61.Currents.map eNatf32), .row 1 (x61.Times.map eNatf32)]) rfl (by simp) rfl (by repeat' first | exact trivial | refine ⟨?_, ?_⟩) ⟨rfl, trivial, rfl, trivial, rfl, trivial, rfl, trivial, rfl, trivial, rfl, trivial, trivial⟩) ?_
            refine awl_val hτ rfl rfl rfl ?_
            refine awl_skip rfl rfl ?_
            refine awl_skip rfl rfl ?_
            refine awl_skip rfl rfl ?_
            refine awl_skip rfl rfl ?_
            refine awl_skip rfl rfl ?_
            refine awl_skip rfl rfl ?_
            refine awl_skip rfl rfl ?_
            refine awl_val hτ rfl rfl rfl ?_
            refine awl_val hτ rfl rfl rfl ?_
            refine awl_skip rfl rfl ?_
            refine awl_skip rfl rfl ?_
            refine awl_weak (weak_ofP [] (l := [(6, .d (.int .i64 (x61.Currents.length : Int))), (12, .d (.fl .f32 x77.1)), (18, .d (.fl .f32 x80.1)), (191, .d (.bool false)), (192, .und), (193, .und)]) (objs := []) rfl (by simp) rfl (by repeat' first | exact trivial | refine ⟨?_, ?_⟩) ⟨rfl, trivial, rfl, trivial, rfl, trivial, rfl, trivial, rfl, trivial, rfl, trivial, trivial⟩) ?_
            refine awl_skip rfl rfl ?_
            refine awl_skip rfl rfl ?_
            refine awl_skip rfl rfl ?_
            refine awl_skip rfl rfl ?_
            refine awl_skip rfl rfl ?_
            refine awl_skip rfl rfl ?_
            refine awl_skip rfl rfl ?_
            refine awl_val hτ rfl rfl rfl ?_
            refine awl_val hτ rfl rfl rfl ?_
            refine awl_skip rfl rfl ?_
            refine awl_skip rfl rfl ?_
            refine awl_skip rfl rfl ?_
            refine awl_weak (weak_ofP [] (l := [(202, .d (.bool false)), (203, .und), (205, .und)]) (objs := []) rfl (by simp) rfl (by repeat' first | exact trivial | refine ⟨?_, ?_⟩) ⟨rfl, trivial, rfl, trivial, rfl, trivial, trivial⟩) ?_
            refine awl_skip rfl rfl ?_
            refine awl_val hτ rfl rfl rfl ?_
            refine awl_val hτ rfl rfl rfl ?_
            refine awl_nil ?_
            refine aw_weak (weak_ofP [] (l := [(4, .d (.bool false))]) (objs := []) rfl (by simp) rfl (by repeat' first | exact trivial | refine ⟨?_, ?_⟩) ⟨rfl, trivial, trivial⟩) ?_
            refine aw_ret ?_
            have hr := Option.some.inj h
            subst hr
            exact ret_objs (.inr rfl) [] (objs' := []) (new := []) rfl (by simp) (by simp) rfl (by repeat' first | exact trivial | refine ⟨?_, ?_⟩) rfl rfl (by repeat' first | exact trivial | refine ⟨?_, ?_⟩) (fun _ => ⟨by simp [V.flat, V.flatA, V.flatC, D.flat], flat_nil⟩) ⟨rfl, rfl, rfl⟩
        · have h := if_bf h hb89
          refine awl_skip rfl rfl ?_
          refine awl_val hτ rfl rfl rfl ?_
          refine awl_val hτ rfl rfl rfl ?_
          refine awl_skip rfl rfl ?_
          refine awl_val hτ rfl rfl rfl ?_
          refine awl_val hτ rfl rfl rfl ?_
          refine awl_skip rfl rfl ?_
          refine awl_val hτ rfl rfl rfl ?_
          refine awl_val hτ rfl rfl rfl ?_
          refine awl_skip rfl rfl ?_
          refine awl_weak (weak_ofP [0, 1, 2] (l := [(5, .ptr 0 0), (6, .d (.int .i64 (x61.Currents.length : Int))), (12, .d (.fl .f32 x77.1)), (14, .d (.fl .f32 x78.1)), (18, .d (.fl .f32 x80.1)), (22, .d (.fl .f32 x82.1)), (23, .d (.bool x82.2)), (156, .d (.bool false)), (157, .und)]) (objs := [.box [.row 1 x61.Currents.length 0 x61.Currents.length, .row 2 x61.Times.length 0 x61.Times.length], .row 1 (x61.Currents.map eNatf32), .row 1 (x61.Times.map eNatf32)]) rfl (by simp) rfl (by repeat' first | exact trivial | refine ⟨?_, ?_⟩) ⟨rfl, trivial, rfl, trivial, rfl, trivial, rfl, trivial, rfl, trivial, rfl, trivial, rfl, trivial, rfl, trivial, rfl, trivial, trivial⟩) ?_
          refine awl_skip rfl rfl ?_
          refine awl_val hτ rfl rfl rfl ?_
          refine awl_val hτ rfl rfl rfl ?_
          refine awl_skip rfl rfl ?_
          refine awl_val hτ rfl rfl rfl ?_
          refine awl_val hτ rfl rfl rfl ?_
          refine awl_skip rfl rfl ?_
          refine awl_skip rfl rfl ?_
          refine awl_val hτ rfl rfl rfl ?_
          refine awl_val hτ rfl rfl rfl ?_
          refine awl_skip rfl rfl ?_
          refine awl_skip rfl rfl ?_
          refine awl_weak (weak_ofP [0, 1, 2] (l := [(5, .ptr 0 0), (6, .d (.int .i64 (x61.Currents.length : Int))), (12, .d (.fl .f32 x77.1)), (14, .d (.fl .f32 x78.1)), (18, .d (.fl .f32 x80.1)), (167, .d (.bool false)), (169, .und)]) (objs := [.box [.row 1 x61.Currents.length 0 x61.Currents.length, .row 2 x61.Times.length 0 x61.Times.length], .row 1 (x61.Currents.map eNatf32), .row 1 (x61.Times.map eNatf32)]) rfl (by simp) rfl (by repeat' first | exact trivial | refine ⟨?_, ?_⟩) ⟨rfl, trivial, rfl, trivial, rfl, trivial, rfl, trivial, rfl, trivial, rfl, trivial, rfl, trivial, trivial⟩) ?_
          refine awl_val hτ rfl rfl rfl ?_
          refine awl_val hτ rfl rfl rfl ?_
          refine awl_skip rfl rfl ?_
          refine awl_skip rfl rfl ?_
          refine awl_skip rfl rfl ?_
          refine awl_val hτ rfl rfl rfl ?_
          refine awl_val hτ rfl rfl rfl ?_
          refine awl_skip rfl rfl ?_
          refine awl_skip rfl rfl ?_
          refine awl_skip rfl rfl ?_
          refine awl_skip rfl rfl ?_
          refine awl_val hτ rfl rfl rfl ?_
          refine awl_weak (weak_ofP [0, 1, 2] (l := [(5, .ptr 0 0), (6, .d (.int .i64 (x61.Currents.length : Int))), (12, .d (.fl .f32 x77.1)), (14, .d (.fl .f32 x78.1)), (18, .d (.fl .f32 x80.1)), (181, .d (.bool false))]) (objs := [.box [.row 1 x61.Currents.length 0 x61.Currents.length, .row 2 x61.Times.length 0 x61.Times.length], .row 1 (x61.Currents.map eNatf32), .row 1 (x61.Times.map eNatf32)]) rfl (by simp) rfl (by repeat' first | exact trivial | refine ⟨?_, ?_⟩) ⟨rfl, trivial, rfl, trivial, rfl, trivial, rfl, trivial, rfl, trivial, rfl, trivial, trivial⟩) ?_
          refine awl_val hτ rfl rfl rfl ?_
          refine awl_skip rfl rfl ?_
          refine awl_skip rfl rfl ?_
          refine awl_skip rfl rfl ?_
          refine awl_skip rfl rfl ?_
          refine awl_skip rfl rfl ?_
          refine awl_skip rfl rfl ?_
          refine awl_skip rfl rfl ?_
          refine awl_val hτ rfl rfl rfl ?_
          refine awl_val hτ rfl rfl rfl ?_
          refine awl_skip rfl rfl ?_
          refine awl_skip rfl rfl ?_
          refine awl_weak (weak_ofP [] (l := [(6, .d (.int .i64 (x61.Currents.length : Int))), (12, .d (.fl .f32 x77.1)), (18, .d (.fl .f32 x80.1)), (191, .d (.bool false)), (192, .und), (193, .und)]) (objs := []) rfl (by simp) rfl (by repeat' first | exact trivial | refine ⟨?_, ?_⟩) ⟨rfl, trivial, rfl, trivial, rfl, trivial, rfl, trivial, rfl, trivial, rfl, trivial, trivial⟩) ?_
          refine awl_skip rfl rfl ?_
          refine awl_skip rfl rfl ?_
          refine awl_skip rfl rfl ?_
          refine awl_skip rfl rfl ?_
          refine awl_skip rfl rfl ?_
          refine awl_skip rfl rfl ?_
          refine awl_skip rfl rfl ?_
          refine awl_val hτ rfl rfl rfl ?_
          refine awl_val hτ rfl rfl rfl ?_
          refine awl_skip rfl rfl ?_
          refine awl_skip rfl rfl ?_
          refine awl_skip rfl rfl ?_
          refine awl_weak (weak_ofP [] (l := [(202, .d (.bool false)), (203, .und), (205, .und)]) (objs := []) rfl (by simp) rfl (by repeat' first | exact trivial | refine ⟨?_, ?_⟩) ⟨rfl, trivial, rfl, trivial, rfl, trivial, trivial⟩) ?_
          refine awl_skip rfl rfl ?_
          refine awl_val hτ rfl rfl rfl ?_
          refine awl_val hτ rfl rfl rfl ?_
          refine awl_nil ?_
          refine aw_weak (weak_ofP [] (l := [(4, .d (.bool false))]) (objs := []) rfl (by simp) rfl (by repeat' first | exact trivial | refine ⟨?_, ?_⟩) ⟨rfl, trivial, trivial⟩) ?_
          refine aw_ret ?_
          have hr := Option.some.inj h
          subst hr
          exact ret_objs (.inr rfl) [] (objs' := []) (new := []) rfl (by simp) (by simp) rfl (by repeat' first | exact trivial | refine ⟨?_, ?_⟩) rfl rfl (by repeat' first | exact trivial | refine ⟨?_, ?_⟩) (fun _ => ⟨by simp [V.flat, V.flatA, V.flatC, D.flat], flat_nil⟩) ⟨rfl, rfl, rfl⟩
      · refine aw_seq ?_
        refine aw_hk1 (ι := Bool) (fun v110 => St.of [(5, .ptr 0 0), (6, .d (.int .i64 (x61.Currents.length : Int))), (12, .d (.fl .f32 x77.1)), (13, .d (.bool x77.2)), (14, .d (.fl .f32 x78.1)), (15, .d (.bool x78.2)), (17, .d (.bool x79.2)), (18, .d (.fl .f32 x80.1)), (19, .d (.bool x80.2)), (21, .d (.bool x81.2)), (22, .d (.fl .f32 x82.1)), (23, .d (.bool x82.2)), (145, .d (.bool v110))] [.box [.row 1 x61.Currents.length 0 x61.Currents.length, .row 2 x61.Times.length 0 x61.Times.length], .row 1 (x61.Currents.map eNatf32), .row 1 (x61.Times.map eNatf32)] f5.ntmps 0) (fun v110 => m_laws_FnCurves_j3 n x61 x77 x78 x79 x80 x81 x82 v110 = some r) ?_ (fun hk112 => ?_)
        · rintro v110 h
          replace h : m_laws_FnCurves_j3 n x61 x77 x78 x79 x80 x81 x82 v110 = some r := h
          unfold m_laws_FnCurves_j3 at h
          refine aw_cond rfl (fun hc111 => ?_) (fun hc111 => ?_)
          · have h := if_bt h hc111
            refine aw_seq ?_
            refine aw_region ?_
            refine awl_val hτ rfl rfl rfl ?_
            refine awl_nil ?_
            refine aw_weak (weak_ofP [] (l := [(4, .d (.bool false))]) (objs := []) rfl (by simp) rfl (by repeat' first | exact trivial | refine ⟨?_, ?_⟩) ⟨rfl, trivial, trivial⟩) ?_
            refine aw_ret ?_
            have hr := Option.some.inj h
            subst hr
            exact ret_objs (.inr rfl) [] (objs' := []) (new := []) rfl (by simp) (by simp) rfl (by repeat' first | exact trivial | refine ⟨?_, ?_⟩) rfl rfl (by repeat' first | exact trivial | refine ⟨?_, ?_⟩) (fun _ => ⟨by simp [V.flat, V.flatA, V.flatC, D.flat], flat_nil⟩) ⟨rfl, rfl, rfl⟩
          · have h := if_bf h hc111
            refine aw_skip ?_
            refine aw_weak (weak_ofP [0, 1, 2] (l := [(5, .ptr 0 0), (6, .d (.int .i64 (x61.Currents.length : Int))), (12, .d (.fl .f32 x77.1)), (13, .d (.bool x77.2)), (14, .d (.fl .f32 x78.1)), (15, .d (.bool x78.2)), (17, .d (.bool x79.2)), (18, .d (.fl .f32 x80.1)), (19, .d (.bool x80.2)), (21, .d (.bool x81.2)), (22, .d (.fl .f32 x82.1)), (23, .d (.bool x82.2))]) (objs := [.box [.row 1 x61.Currents.length 0 x61.Currents.length, .row 2 x61.Times.length 0 x61.Times.length], .row 1 (x61.Currents.map eNatf32), .row 1 (x61.Times.map eNatf32)]) rfl (by simp) rfl (by repeat' first | exact trivial | refine ⟨?_, ?_⟩) ⟨rfl, trivial, rfl, trivial, rfl, trivial, rfl, trivial, rfl, trivial, rfl, trivial, rfl, trivial, rfl, trivial, rfl, trivial, rfl, trivial, rfl, trivial, rfl, trivial, trivial⟩) ?_
            exact hk105 () h
        · refine aw_seq ?_
          refine aw_weak (weak_ofP [0, 1, 2] (l := [(5, .ptr 0 0), (6, .d (.int .i64 (x61.Currents.length : Int))), (12, .d (.fl .f32 x77.1)), (13, .d (.bool x77.2)), (14, .d (.fl .f32 x78.1)), (15, .d (.bool x78.2)), (17, .d (.bool x79.2)), (18, .d (.fl .f32 x80.1)), (19, .d (.bool x80.2)), (21, .d (.bool x81.2)), (22, .d (.fl .f32 x82.1)), (23, .d (.bool x82.2)), (24, .d (.fl .f32 x83.1)), (25, .d (.bool x83.2)), (27, .d (.bool x84.2))]) (objs := [.box [.row 1 x61.Currents.length 0 x61.Currents.length, .row 2 x61.Times.length 0 x61.Times.length], .row 1 (x61.Currents.map eNatf32), .row 1 (x61.Times.map eNatf32)]) rfl (by simp) rfl (by repeat' first | exact trivial | refine ⟨?_, ?_⟩) ⟨rfl, trivial, rfl, trivial, rfl, trivial, rfl, trivial, rfl, trivial, rfl, trivial, rfl, trivial, rfl, trivial, rfl, trivial, rfl, trivial, rfl, trivial, rfl, trivial, rfl, trivial, rfl, trivial, rfl, trivial, trivial⟩) ?_
          refine aw_region ?_
          refine awl_val hτ rfl rfl rfl ?_
          refine awl_val hτ rfl rfl rfl ?_
          refine awl_val hτ rfl rfl rfl ?_
          refine awl_val hτ rfl rfl rfl ?_
          refine awl_split 139 rfl (fun hb113 => ?_) (fun hb113 => ?_)
          · have hb113 := not_t hb113
            have h := if_bf h hb113
            refine awl_skip rfl rfl ?_
            refine awl_skip rfl rfl ?_
            refine awl_skip rfl rfl ?_
            refine awl_skip rfl rfl ?_
            refine awl_skip rfl rfl ?_
            refine awl_val hτ rfl rfl rfl ?_
            refine awl_nil ?_
            refine aw_weak (weak_ofP [0, 1, 2] (l := [(5, .ptr 0 0), (6, .d (.int .i64 (x61.Currents.length : Int))), (12, .d (.fl .f32 x77.1)), (13, .d (.bool x77.2)), (14, .d (.fl .f32 x78.1)), (15, .d (.bool x78.2)), (17, .d (.bool x79.2)), (18, .d (.fl .f32 x80.1)), (19, .d (.bool x80.2)), (21, .d (.bool x81.2)), (22, .d (.fl .f32 x82.1)), (23, .d (.bool x82.2)), (145, .d (.bool true))]) (objs := [.box [.row 1 x61.Currents.length 0 x61.Currents.length, .row 2 x61.Times.length 0 x61.Times.length], .row 1 (x61.Currents.map eNatf32), .row 1 (x61.Times.map eNatf32)]) rfl (by simp) rfl (by repeat' first | exact trivial | refine ⟨?_, ?_⟩) ⟨rfl, trivial, rfl, trivial, rfl, trivial, rfl, trivial, rfl, trivial, rfl, trivial, rfl, trivial, rfl, trivial, rfl, trivial, rfl, trivial, rfl, trivial, rfl, trivial, rfl, trivial, trivial⟩) ?_
            exact hk112 true h
          · have hb113 := not_f hb113
            have h := if_bt h hb113
            refine awl_val hτ rfl rfl rfl ?_
            refine awl_val hτ rfl rfl rfl ?_
            refine awl_split 141 rfl (fun hb114 => ?_) (fun hb114 => ?_)
            · have h := if_bt h hb114
              refine awl_val hτ rfl rfl rfl ?_
              refine awl_val hτ rfl rfl rfl ?_
              refine awl_val hτ rfl rfl rfl ?_
              refine awl_val hτ rfl rfl rfl ?_
              refine awl_nil ?_
              refine aw_weak (weak_ofP [0, 1, 2] (l := [(5, .ptr 0 0), (6, .d (.int .i64 (x61.Currents.length : Int))), (12, .d (.fl .f32 x77.1)), (13, .d (.bool x77.2)), (14, .d (.fl .f32 x78.1)), (15, .d (.bool x78.2)), (17, .d (.bool x79.2)), (18, .d (.fl .f32 x80.1)), (19, .d (.bool x80.2)), (21, .d (.bool x81.2)), (22, .d (.fl .f32 x82.1)), (23, .d (.bool x82.2)), (145, .d (.bool (fcmp .lss .f32 x83.1 (3129152111 : Nat))))]) (objs := [.box [.row 1 x61.Currents.length 0 x61.Currents.length, .row 2 x61.Times.length 0 x61.Times.length], .row 1 (x61.Currents.map eNatf32), .row 1 (x61.Times.map eNatf32)]) rfl (by simp) rfl (by repeat' first | exact trivial | refine ⟨?_, ?_⟩) ⟨rfl, trivial, rfl, trivial, rfl, trivial, rfl, trivial, rfl, trivial, rfl, trivial, rfl, trivial, rfl, trivial, rfl, trivial, rfl, trivial, rfl, trivial, rfl, trivial, rfl, trivial, trivial⟩) ?_
              exact hk112 (fcmp .lss .f32 x83.1 (3129152111 : Nat)) h
            · have h := if_bf h hb114
              refine awl_skip rfl rfl ?_
              refine awl_skip rfl rfl ?_
              refine awl_val hτ rfl rfl rfl ?_
              refine awl_val hτ rfl rfl rfl ?_
              refine awl_nil ?_
              refine aw_weak (weak_ofP [0, 1, 2] (l := [(5, .ptr 0 0), (6, .d (.int .i64 (x61.Currents.length : Int))), (12, .d (.fl .f32 x77.1)), (13, .d (.bool x77.2)), (14, .d (.fl .f32 x78.1)), (15, .d (.bool x78.2)), (17, .d (.bool x79.2)), (18, .d (.fl .f32 x80.1)), (19, .d (.bool x80.2)), (21, .d (.bool x81.2)), (22, .d (.fl .f32 x82.1)), (23, .d (.bool x82.2)), (145, .d (.bool false))]) (objs := [.box [.row 1 x61.Currents.length 0 x61.Currents.length, .row 2 x61.Times.length 0 x61.Times.length], .row 1 (x61.Currents.map eNatf32), .row 1 (x61.Times.map eNatf32)]) rfl (by simp) rfl (by repeat' first | exact trivial | refine ⟨?_, ?_⟩) ⟨rfl, trivial, rfl, trivial, rfl, trivial, rfl, trivial, rfl, trivial, rfl, trivial, rfl, trivial, rfl, trivial, rfl, trivial, rfl, trivial, rfl, trivial, rfl, trivial, rfl, trivial, trivial⟩) ?_
              exact hk112 false h
    · refine aw_seq ?_
      refine aw_seq ?_
      refine aw_region ?_
      refine awl_val hτ rfl rfl rfl ?_
      refine awl_val hτ rfl rfl rfl ?_
      refine awl_need hτ rfl rfl rfl (len_map _) ?_
      refine awl_val hτ rfl rfl rfl ?_
      refine awl_nil ?_
      refine aw_block ?_
      refine aw_loop (ι := Nat × Int) (fun (m128, v121) => St.of [(1, .d (.sl false (more_.map eIntu8))), (5, .ptr 0 0), (6, .d (.int .i64 (x61.Currents.length : Int))), (38, .d (.int .i64 (x61.Currents.length : Int))), (39, .d (.int .i64 v121))] [.box [.row 1 x61.Currents.length 0 x61.Currents.length, .row 2 x61.Times.length 0 x61.Times.length], .row 1 (x61.Currents.map eNatf32), .row 1 (x61.Times.map eNatf32)] f5.ntmps 0) (fun (m128, v121) => m_laws_FnCurves_l4 n more_ x61 m128 v121 = some r) (fun x => x.1) (n, (0 : Int)) h (weak_ofP [0, 1, 2] (l := [(1, .d (.sl false (more_.map eIntu8))), (5, .ptr 0 0), (6, .d (.int .i64 (x61.Currents.length : Int))), (38, .d (.int .i64 (x61.Currents.length : Int))), (39, .d (.int .i64 (0 : Int)))]) (objs := [.box [.row 1 x61.Currents.length 0 x61.Currents.length, .row 2 x61.Times.length 0 x61.Times.length], .row 1 (x61.Currents.map eNatf32), .row 1 (x61.Times.map eNatf32)]) rfl (by simp) rfl (by repeat' first | exact trivial | refine ⟨?_, ?_⟩) ⟨rfl, trivial, rfl, trivial, rfl, trivial, rfl, trivial, rfl, trivial, trivial⟩) ?_
      rintro ⟨m128, v121⟩ h
      replace h : m_laws_FnCurves_l4 n more_ x61 m128 v121 = some r := h
      rcases m128 with _ | m128
      · rw [m_laws_FnCurves_l4] at h; cases h
      rw [m_laws_FnCurves_l4] at h
      refine aw_seq ?_
      refine aw_region ?_
      refine awl_val hτ rfl rfl rfl ?_
      refine awl_nil ?_
      refine aw_seq ?_
      refine aw_cond rfl (fun hc130 => ?_) (fun hc130 => ?_)
      · have h := if_t h hc130
        refine aw_skip ?_
        refine aw_hk1 (ι := Unit) (fun _ => St.of [(1, .d (.sl false (more_.map eIntu8))), (5, .ptr 0 0), (6, .d (.int .i64 (x61.Currents.length : Int))), (38, .d (.int .i64 (x61.Currents.length : Int))), (39, .d (.int .i64 v121))] [.box [.row 1 x61.Currents.length 0 x61.Currents.length, .row 2 x61.Times.length 0 x61.Times.length], .row 1 (x61.Currents.map eNatf32), .row 1 (x61.Times.map eNatf32)] f5.ntmps 0) (fun _ => m_laws_FnCurves_j5 n (m_laws_FnCurves_l4 n more_ x61 m128) v121 = some r) ?_ (fun hk136 => ?_)
        · rintro ⟨⟩ h
          replace h : m_laws_FnCurves_j5 n (m_laws_FnCurves_l4 n more_ x61 m128) v121 = some r := h
          unfold m_laws_FnCurves_j5 at h
          refine aw_region ?_
          refine awl_val hτ rfl rfl rfl ?_
          refine awl_val hτ rfl rfl rfl ?_
          refine awl_nil ?_
          exact ⟨(m128, (w64 (v121 + (1 : Int)))), h, Nat.lt_succ_self m128, (weak_ofP [0, 1, 2] (l := [(1, .d (.sl false (more_.map eIntu8))), (5, .ptr 0 0), (6, .d (.int .i64 (x61.Currents.length : Int))), (38, .d (.int .i64 (x61.Currents.length : Int))), (39, .d (.int .i64 (w64 (v121 + (1 : Int)))))]) (objs := [.box [.row 1 x61.Currents.length 0 x61.Currents.length, .row 2 x61.Times.length 0 x61.Times.length], .row 1 (x61.Currents.map eNatf32), .row 1 (x61.Times.map eNatf32)]) rfl (by simp) rfl (by repeat' first | exact trivial | refine ⟨?_, ?_⟩) ⟨rfl, trivial, rfl, trivial, rfl, trivial, rfl, trivial, rfl, trivial, trivial⟩)⟩
        · refine aw_seq ?_
          refine aw_block ?_
          refine aw_seq ?_
          refine aw_region ?_
          refine awl_val hτ rfl rfl rfl ?_
          refine awl_val hτ rfl rfl rfl ?_
          refine awl_nil ?_
          refine aw_seq ?_
          refine any_start ?_
          refine any_val hτ [0] 0 rfl rfl rfl rfl rfl ?_
          refine any_val hτ [0] 1 rfl rfl rfl rfl rfl ?_
          refine any_val hτ [0] 2 rfl rfl rfl rfl rfl ?_
          refine any_val hτ [] 3 rfl rfl rfl rfl rfl ?_
          refine bnd_elim h fun x137 hx137 h => ?_
          refine any_need hτ [1] 4 rfl rfl rfl rfl rfl (row_need hx137) ?_
          refine any_elem hτ [1] 5 rfl rfl rfl rfl rfl (len_map _) (row_get hx137) rfl ?_
          refine bnd_elim h fun x138 hx138 h => ?_
          refine any_callP hτ true [] [0, 1, 2] 6 rfl rfl rfl rfl (enterOk func28 rfl rfl) (mapO_cons (exV_agg (mapO_cons (exC_view (f := eNatf32) x61.Currents rfl rfl rfl) (mapO_cons (exC_view (f := eNatf32) x61.Times rfl rfl rfl) mapO_nil))) (mapO_cons rfl mapO_nil)) rfl (by simp) ⟨⟨(exP_view (f := eNatf32) x61.Currents rfl rfl rfl), (exP_view (f := eNatf32) x61.Times rfl rfl rfl)⟩, trivial, trivial⟩ (by repeat' first | exact trivial | refine ⟨?_, ?_⟩) (impl_TimeAt_ok_fr n (SCurve.mk x61.Currents x61.Times) x137 hx138) ⟨rfl, rfl, rfl, trivial⟩ ?_
          refine any_val hτ [] 7 rfl rfl rfl rfl rfl ?_
          refine any_val hτ [] 8 rfl rfl rfl rfl rfl ?_
          refine any_val hτ [] 9 rfl rfl rfl rfl rfl ?_
          refine any_val hτ [] 10 rfl rfl rfl rfl rfl ?_
          refine any_val hτ [] 11 rfl rfl rfl rfl rfl ?_
          refine any_done mixed (by kernel_rfl) ?_
          refine aw_hk1 (ι := Bool) (fun v142 => St.of [(1, .d (.sl false (more_.map eIntu8))), (5, .ptr 0 0), (6, .d (.int .i64 (x61.Currents.length : Int))), (38, .d (.int .i64 (x61.Currents.length : Int))), (39, .d (.int .i64 v121)), (62, .d (.bool v142))] [.box [.row 1 x61.Currents.length 0 x61.Currents.length, .row 2 x61.Times.length 0 x61.Times.length], .row 1 (x61.Currents.map eNatf32), .row 1 (x61.Times.map eNatf32)] f5.ntmps 0) (fun v142 => m_laws_FnCurves_j6 n (m_laws_FnCurves_l4 n more_ x61 m128) v121 v142 = some r) ?_ (fun hk144 => ?_)
          · rintro v142 h
            replace h : m_laws_FnCurves_j6 n (m_laws_FnCurves_l4 n more_ x61 m128) v121 v142 = some r := h
            unfold m_laws_FnCurves_j6 at h
            refine aw_cond rfl (fun hc143 => ?_) (fun hc143 => ?_)
            · have h := if_bt h hc143
              refine aw_seq ?_
              refine aw_region ?_
              refine awl_val hτ rfl rfl rfl ?_
              refine awl_nil ?_
              refine aw_weak (weak_ofP [] (l := [(4, .d (.bool false))]) (objs := []) rfl (by simp) rfl (by repeat' first | exact trivial | refine ⟨?_, ?_⟩) ⟨rfl, trivial, trivial⟩) ?_
              refine aw_ret ?_
              have hr := Option.some.inj h
              subst hr
              exact ret_objs (.inr rfl) [] (objs' := []) (new := []) rfl (by simp) (by simp) rfl (by repeat' first | exact trivial | refine ⟨?_, ?_⟩) rfl rfl (by repeat' first | exact trivial | refine ⟨?_, ?_⟩) (fun _ => ⟨by simp [V.flat, V.flatA, V.flatC, D.flat], flat_nil⟩) ⟨rfl, rfl, rfl⟩
            · have h := if_bf h hc143
              refine aw_skip ?_
              refine aw_weak (weak_ofP [0, 1, 2] (l := [(1, .d (.sl false (more_.map eIntu8))), (5, .ptr 0 0), (6, .d (.int .i64 (x61.Currents.length : Int))), (38, .d (.int .i64 (x61.Currents.length : Int))), (39, .d (.int .i64 v121))]) (objs := [.box [.row 1 x61.Currents.length 0 x61.Currents.length, .row 2 x61.Times.length 0 x61.Times.length], .row 1 (x61.Currents.map eNatf32), .row 1 (x61.Times.map eNatf32)]) rfl (by simp) rfl (by repeat' first | exact trivial | refine ⟨?_, ?_⟩) ⟨rfl, trivial, rfl, trivial, rfl, trivial, rfl, trivial, rfl, trivial, trivial⟩) ?_
              exact hk136 () h
          · refine aw_seq ?_
            refine aw_weak (weak_ofP [0, 1, 2] (l := [(1, .d (.sl false (more_.map eIntu8))), (5, .ptr 0 0), (6, .d (.int .i64 (x61.Currents.length : Int))), (7, .d (.int .i64 v121)), (8, .d (.fl .f32 x138.1)), (9, .d (.bool x138.2)), (38, .d (.int .i64 (x61.Currents.length : Int))), (39, .d (.int .i64 v121))]) (objs := [.box [.row 1 x61.Currents.length 0 x61.Currents.length, .row 2 x61.Times.length 0 x61.Times.length], .row 1 (x61.Currents.map eNatf32), .row 1 (x61.Times.map eNatf32)]) rfl (by simp) rfl (by repeat' first | exact trivial | refine ⟨?_, ?_⟩) ⟨rfl, trivial, rfl, trivial, rfl, trivial, rfl, trivial, rfl, trivial, rfl, trivial, rfl, trivial, rfl, trivial, trivial⟩) ?_
            refine aw_region ?_
            refine awl_val hτ rfl rfl rfl ?_
            refine awl_val hτ rfl rfl rfl ?_
            refine awl_val hτ rfl rfl rfl ?_
            refine awl_split 54 rfl (fun hb145 => ?_) (fun hb145 => ?_)
            · have hb145 := not_t hb145
              have h := if_bf h hb145
              refine awl_skip rfl rfl ?_
              refine awl_skip rfl rfl ?_
              refine awl_skip rfl rfl ?_
              refine awl_skip rfl rfl ?_
              refine awl_skip rfl rfl ?_
              refine awl_skip rfl rfl ?_
              refine awl_skip rfl rfl ?_
              refine awl_val hτ rfl rfl rfl ?_
              refine awl_nil ?_
              refine aw_weak (weak_ofP [0, 1, 2] (l := [(1, .d (.sl false (more_.map eIntu8))), (5, .ptr 0 0), (6, .d (.int .i64 (x61.Currents.length : Int))), (38, .d (.int .i64 (x61.Currents.length : Int))), (39, .d (.int .i64 v121)), (62, .d (.bool true))]) (objs := [.box [.row 1 x61.Currents.length 0 x61.Currents.length, .row 2 x61.Times.length 0 x61.Times.length], .row 1 (x61.Currents.map eNatf32), .row 1 (x61.Times.map eNatf32)]) rfl (by simp) rfl (by repeat' first | exact trivial | refine ⟨?_, ?_⟩) ⟨rfl, trivial, rfl, trivial, rfl, trivial, rfl, trivial, rfl, trivial, rfl, trivial, trivial⟩) ?_
              exact hk144 true h
            · have hb145 := not_f hb145
              have h := if_bt h hb145
              refine awl_val hτ rfl rfl rfl ?_
              refine awl_val hτ rfl rfl rfl ?_
              refine awl_val hτ rfl rfl rfl ?_
              refine awl_val hτ rfl rfl rfl ?_
              refine bnd_elim h fun x146 hx146 h => ?_
              refine awl_need hτ rfl rfl rfl (row_need hx146) ?_
              refine awl_elem hτ rfl rfl rfl (len_map _) (row_get hx146) rfl ?_
              refine awl_val hτ rfl rfl rfl ?_
              refine awl_val hτ rfl rfl rfl ?_
              refine awl_nil ?_
              refine aw_weak (weak_ofP [0, 1, 2] (l := [(1, .d (.sl false (more_.map eIntu8))), (5, .ptr 0 0), (6, .d (.int .i64 (x61.Currents.length : Int))), (38, .d (.int .i64 (x61.Currents.length : Int))), (39, .d (.int .i64 v121)), (62, .d (.bool (fcmp .neq .f32 x138.1 x146)))]) (objs := [.box [.row 1 x61.Currents.length 0 x61.Currents.length, .row 2 x61.Times.length 0 x61.Times.length], .row 1 (x61.Currents.map eNatf32), .row 1 (x61.Times.map eNatf32)]) rfl (by simp) rfl (by repeat' first | exact trivial | refine ⟨?_, ?_⟩) ⟨rfl, trivial, rfl, trivial, rfl, trivial, rfl, trivial, rfl, trivial, rfl, trivial, trivial⟩) ?_
              exact hk144 (fcmp .neq .f32 x138.1 x146) h
      · have h := if_f h hc130
        refine aw_exit ?_
        refine aw_weak (weak_ofP [0, 1, 2] (l := [(1, .d (.sl false (more_.map eIntu8))), (5, .ptr 0 0), (6, .d (.int .i64 (x61.Currents.length : Int)))]) (objs := [.box [.row 1 x61.Currents.length 0 x61.Currents.length, .row 2 x61.Times.length 0 x61.Times.length], .row 1 (x61.Currents.map eNatf32), .row 1 (x61.Times.map eNatf32)]) rfl (by simp) rfl (by repeat' first | exact trivial | refine ⟨?_, ?_⟩) ⟨rfl, trivial, rfl, trivial, rfl, trivial, trivial⟩) ?_
        exact hk115 () h
theorem laws_FnCurves_ok (n : Nat) (code_ : List Int) (more_ : List Int) {r : Bool} (h : m_laws_FnCurves n code_ more_ = some r) : ACall prog false 5 [.d (.sl false (code_.map eIntu8)), .d (.sl false (more_.map eIntu8))] [] (fun v o new => v = .d (.bool r) ∧ o = [] ∧ new = []) := laws_FnCurves_ok_fr0 false n code_ more_ h
theorem laws_FnCurves_ok_fr (n : Nat) (code_ : List Int) (more_ : List Int) {r : Bool} (h : m_laws_FnCurves n code_ more_ = some r) : ACall prog true 5 [.d (.sl false (code_.map eIntu8)), .d (.sl false (more_.map eIntu8))] [] (fun v o new => v = .d (.bool r) ∧ o = [] ∧ new = []) := laws_FnCurves_ok_fr0 true n code_ more_ h

end Go.Proofs.Ytolggocnbakokaa.AWN
