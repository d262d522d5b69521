/- Models and contracts, printed by program. -/
import Derived.Test.YtkagbffdmppbhabDarkB
set_option linter.unusedVariables false
set_option linter.unusedSimpArgs false
set_option linter.unusedSectionVars false
set_option maxHeartbeats 2000000
namespace Go.Proofs.Ytkagbffdmppbhab.AWN
open Go Go.Proofs.Try

def m_laws_b10Share (n : Nat) (a_ : Int) (b_ : Int) : Option Nat :=
  if b_ = (0 : Int) then
    some (0 : Nat)
  else
    (fconv .f64 .f32 (farith .quo .f64 (FloatKind.nearest .f64 a_) (FloatKind.nearest .f64 b_))).bind fun x3 =>
    some x3
theorem laws_b10Share_ok_fr0 (fr : Bool) (n : Nat) (a_ : Int) (b_ : Int) {r : Nat} (h : m_laws_b10Share n a_ b_ = some r) : ACall prog fr 82 [.d (.int .i64 a_), .d (.int .i64 b_)] [] (fun v o new => v = .d (.fl .f32 r) ∧ o = [] ∧ new = []) := by
  refine acall_of_aw hτ func82 rfl (by simp) (by simp) ?_
  unfold m_laws_b10Share at h
  refine aw_seq ?_
  refine aw_region ?_
  refine awl_val hτ rfl rfl rfl ?_
  refine awl_nil ?_
  refine aw_seq ?_
  refine aw_seq ?_
  refine aw_region ?_
  refine awl_val hτ rfl rfl rfl ?_
  refine awl_val hτ (v := .d (.bool (decide (b_ = (0 : Int))))) rfl rfl (or_ieq _ _) ?_
  refine awl_nil ?_
  refine aw_cond rfl (fun hc2 => ?_) (fun hc2 => ?_)
  · have h := if_t h hc2
    refine aw_seq ?_
    refine aw_region ?_
    refine awl_val hτ rfl rfl rfl ?_
    refine awl_nil ?_
    refine aw_weak (weak_ofP [] (l := [(4, .d (.fl .f32 (0 : Nat)))]) (objs := []) rfl (by simp) rfl (by repeat' first | exact trivial | refine ⟨?_, ?_⟩) ⟨rfl, trivial, trivial⟩) ?_
    refine aw_ret ?_
    have hr := Option.some.inj h
    subst hr
    exact ret_objs (.inr rfl) [] (objs' := []) (new := []) rfl (by simp) (by simp) rfl (by repeat' first | exact trivial | refine ⟨?_, ?_⟩) rfl rfl (by repeat' first | exact trivial | refine ⟨?_, ?_⟩) (fun _ => ⟨by simp [V.flat, V.flatA, V.flatC, D.flat], flat_nil⟩) ⟨rfl, rfl, rfl⟩
  · have h := if_f h hc2
    refine aw_skip ?_
    refine aw_seq ?_
    refine aw_region ?_
    refine awl_val hτ rfl rfl rfl ?_
    refine awl_val hτ rfl rfl rfl ?_
    refine awl_val hτ rfl rfl rfl ?_
    refine awl_val hτ rfl rfl rfl ?_
    refine awl_val hτ rfl rfl rfl ?_
    refine bnd_elim h fun x3 hx3 h => ?_
    refine awl_val hτ (v := .d (.fl .f32 x3)) rfl rfl (conv_val hx3) ?_
    refine awl_val hτ rfl rfl rfl ?_
    refine awl_nil ?_
    refine aw_weak (weak_ofP [] (l := [(4, .d (.fl .f32 x3))]) (objs := []) rfl (by simp) rfl (by repeat' first | exact trivial | refine ⟨?_, ?_⟩) ⟨rfl, trivial, trivial⟩) ?_
    refine aw_ret ?_
    have hr := Option.some.inj h
    subst hr
    exact ret_objs (.inr rfl) [] (objs' := []) (new := []) rfl (by simp) (by simp) rfl (by repeat' first | exact trivial | refine ⟨?_, ?_⟩) rfl rfl (by repeat' first | exact trivial | refine ⟨?_, ?_⟩) (fun _ => ⟨by simp [V.flat, V.flatA, V.flatC, D.flat], flat_nil⟩) ⟨rfl, rfl, rfl⟩
theorem laws_b10Share_ok (n : Nat) (a_ : Int) (b_ : Int) {r : Nat} (h : m_laws_b10Share n a_ b_ = some r) : ACall prog false 82 [.d (.int .i64 a_), .d (.int .i64 b_)] [] (fun v o new => v = .d (.fl .f32 r) ∧ o = [] ∧ new = []) := laws_b10Share_ok_fr0 false n a_ b_ h
theorem laws_b10Share_ok_fr (n : Nat) (a_ : Int) (b_ : Int) {r : Nat} (h : m_laws_b10Share n a_ b_ = some r) : ACall prog true 82 [.d (.int .i64 a_), .d (.int .i64 b_)] [] (fun v o new => v = .d (.fl .f32 r) ∧ o = [] ∧ new = []) := laws_b10Share_ok_fr0 true n a_ b_ h

def m_impl_WorstOutage_j3 (n : Nat) (k46 : Int → Int → Int → Option (Int × Int × Bool)) (v37 : Int) (v52 : Int) (v53 : Int) : Option (Int × Int × Bool) :=
  k46 v52 v53 (w64 (v37 + (1 : Int)))
def m_impl_WorstOutage_l2 (n : Nat) (f_ : SFeeder) (list_ : List SOutage) : Nat → Int → Int → Int → Option (Int × Int × Bool)
  | 0, _, _, _ => none
  | m45 + 1, v35, v36, v37 =>
    if v37 < (list_.length : Int) then
      grd (0 ≤ v37 ∧ v37 ≤ (w64 (v37 + (1 : Int))) ∧ (w64 (v37 + (1 : Int))) ≤ (list_.length : Int)) <|
      (m_impl_Feeder_customerSums n f_ (sub list_ v37 (w64 (v37 + (1 : Int))))).bind fun x56 =>
      if x56.1 > v36 then
        m_impl_WorstOutage_j3 n (m_impl_WorstOutage_l2 n f_ list_ m45) v37 v37 x56.1
      else
        m_impl_WorstOutage_j3 n (m_impl_WorstOutage_l2 n f_ list_ m45) v37 v35 v36
    else
      some (v35, v36, true)
def m_impl_WorstOutage_j1 (n : Nat) (f_ : SFeeder) (list_ : List SOutage) : Option (Int × Int × Bool) :=
  m_impl_WorstOutage_l2 n f_ list_ n (0 : Int) (-1 : Int) (0 : Int)
def m_impl_WorstOutage_j4 (n : Nat) (f_ : SFeeder) (list_ : List SOutage) (v62 : Bool) : Option (Int × Int × Bool) :=
  if v62 = true then
    some ((0 : Int), (0 : Int), false)
  else
    m_impl_WorstOutage_j1 n f_ list_
def m_impl_WorstOutage (n : Nat) (f_ : SFeeder) (list_ : List SOutage) : Option (Int × Int × Bool) :=
  (m_impl_AreOutages n f_ list_).bind fun x65 =>
  if x65 = true then
    m_impl_WorstOutage_j4 n f_ list_ (decide ((list_.length : Int) = (0 : Int)))
  else
    m_impl_WorstOutage_j4 n f_ list_ true
theorem impl_WorstOutage_ok_fr0 (fr : Bool) (n : Nat) (f_ : SFeeder) (list_ : List SOutage) {r : Int × Int × Bool} (h : m_impl_WorstOutage n f_ list_ = some r) : ACall prog fr 83 [.agg [.d (.cx .f32 f_.Source.A.re f_.Source.A.im), .d (.cx .f32 f_.Source.B.re f_.Source.B.im), .d (.cx .f32 f_.Source.C.re f_.Source.C.im), .d (.sl false (f_.Buses.map eSBus))], .d (.sl false (list_.map eSOutage))] [] (fun v o new => v = .tup [.d (.int .i64 r.1), .d (.int .i64 r.2.1), .d (.bool r.2.2)] ∧ o = [] ∧ new = []) := by
  refine acall_of_aw hτ func83 rfl (by simp) (by simp) ?_
  unfold m_impl_WorstOutage at h
  refine aw_seq ?_
  refine aw_region ?_
  refine awl_valH hτ rfl rfl rfl ?_
  refine awl_val hτ rfl rfl rfl ?_
  refine awl_val hτ rfl rfl rfl ?_
  refine awl_val hτ rfl rfl rfl ?_
  refine awl_nil ?_
  refine aw_hk1 (ι := Unit) (fun _ => St.of [(1, .d (.sl false (list_.map eSOutage))), (2, .ptr 0 0)] [.box [.d (.cx .f32 f_.Source.A.re f_.Source.A.im), .d (.cx .f32 f_.Source.B.re f_.Source.B.im), .d (.cx .f32 f_.Source.C.re f_.Source.C.im), .d (.sl false (f_.Buses.map eSBus))]] f83.ntmps 0) (fun _ => m_impl_WorstOutage_j1 n f_ list_ = some r) ?_ (fun hk58 => ?_)
  · rintro ⟨⟩ h
    replace h : m_impl_WorstOutage_j1 n f_ list_ = some r := h
    unfold m_impl_WorstOutage_j1 at h
    refine aw_seq ?_
    refine aw_region ?_
    refine awl_val hτ rfl rfl rfl ?_
    refine awl_val hτ rfl rfl rfl ?_
    refine awl_nil ?_
    refine aw_seq ?_
    refine aw_seq ?_
    refine aw_region ?_
    refine awl_val hτ rfl rfl rfl ?_
    refine awl_val hτ (v := .d (.int .i64 (list_.length : Int))) rfl rfl (Eq.trans rfl (or_len (f := eSOutage) list_)) ?_
    refine awl_val hτ rfl rfl rfl ?_
    refine awl_nil ?_
    refine aw_block ?_
    refine aw_loop (ι := Nat × Int × Int × Int) (fun (m45, v35, v36, v37) => St.of [(1, .d (.sl false (list_.map eSOutage))), (2, .ptr 0 0), (7, .d (.int .i64 v35)), (8, .d (.int .i64 v36)), (22, .d (.int .i64 (list_.length : Int))), (23, .d (.int .i64 v37))] [.box [.d (.cx .f32 f_.Source.A.re f_.Source.A.im), .d (.cx .f32 f_.Source.B.re f_.Source.B.im), .d (.cx .f32 f_.Source.C.re f_.Source.C.im), .d (.sl false (f_.Buses.map eSBus))]] f83.ntmps 0) (fun (m45, v35, v36, v37) => m_impl_WorstOutage_l2 n f_ list_ m45 v35 v36 v37 = some r) (fun x => x.1) (n, (0 : Int), (-1 : Int), (0 : Int)) h (weak_ofP [0] (l := [(1, .d (.sl false (list_.map eSOutage))), (2, .ptr 0 0), (7, .d (.int .i64 (0 : Int))), (8, .d (.int .i64 (-1 : Int))), (22, .d (.int .i64 (list_.length : Int))), (23, .d (.int .i64 (0 : Int)))]) (objs := [.box [.d (.cx .f32 f_.Source.A.re f_.Source.A.im), .d (.cx .f32 f_.Source.B.re f_.Source.B.im), .d (.cx .f32 f_.Source.C.re f_.Source.C.im), .d (.sl false (f_.Buses.map eSBus))]]) rfl (by simp) rfl (by repeat' first | exact trivial | refine ⟨?_, ?_⟩) ⟨rfl, trivial, rfl, trivial, rfl, trivial, rfl, trivial, rfl, trivial, rfl, trivial, trivial⟩) ?_
    rintro ⟨m45, v35, v36, v37⟩ h
    replace h : m_impl_WorstOutage_l2 n f_ list_ m45 v35 v36 v37 = some r := h
    rcases m45 with _ | m45
    · rw [m_impl_WorstOutage_l2] at h; cases h
    rw [m_impl_WorstOutage_l2] at h
    refine aw_seq ?_
    refine aw_region ?_
    refine awl_val hτ rfl rfl rfl ?_
    refine awl_nil ?_
    refine aw_seq ?_
    refine aw_cond rfl (fun hc47 => ?_) (fun hc47 => ?_)
    · have h := if_t h hc47
      refine aw_skip ?_
      refine aw_hk1 (ι := Int × Int) (fun (v52, v53) => St.of [(1, .d (.sl false (list_.map eSOutage))), (2, .ptr 0 0), (7, .d (.int .i64 v52)), (8, .d (.int .i64 v53)), (22, .d (.int .i64 (list_.length : Int))), (23, .d (.int .i64 v37))] [.box [.d (.cx .f32 f_.Source.A.re f_.Source.A.im), .d (.cx .f32 f_.Source.B.re f_.Source.B.im), .d (.cx .f32 f_.Source.C.re f_.Source.C.im), .d (.sl false (f_.Buses.map eSBus))]] f83.ntmps 0) (fun (v52, v53) => m_impl_WorstOutage_j3 n (m_impl_WorstOutage_l2 n f_ list_ m45) v37 v52 v53 = some r) ?_ (fun hk54 => ?_)
      · rintro ⟨v52, v53⟩ h
        replace h : m_impl_WorstOutage_j3 n (m_impl_WorstOutage_l2 n f_ list_ m45) v37 v52 v53 = some r := h
        unfold m_impl_WorstOutage_j3 at h
        refine aw_region ?_
        refine awl_val hτ rfl rfl rfl ?_
        refine awl_val hτ rfl rfl rfl ?_
        refine awl_nil ?_
        exact ⟨(m45, v52, v53, (w64 (v37 + (1 : Int)))), h, Nat.lt_succ_self m45, (weak_ofP [0] (l := [(1, .d (.sl false (list_.map eSOutage))), (2, .ptr 0 0), (7, .d (.int .i64 v52)), (8, .d (.int .i64 v53)), (22, .d (.int .i64 (list_.length : Int))), (23, .d (.int .i64 (w64 (v37 + (1 : Int)))))]) (objs := [.box [.d (.cx .f32 f_.Source.A.re f_.Source.A.im), .d (.cx .f32 f_.Source.B.re f_.Source.B.im), .d (.cx .f32 f_.Source.C.re f_.Source.C.im), .d (.sl false (f_.Buses.map eSBus))]]) rfl (by simp) rfl (by repeat' first | exact trivial | refine ⟨?_, ?_⟩) ⟨rfl, trivial, rfl, trivial, rfl, trivial, rfl, trivial, rfl, trivial, rfl, trivial, trivial⟩)⟩
      · refine aw_seq ?_
        refine aw_block ?_
        refine aw_seq ?_
        refine aw_region ?_
        refine awl_val hτ rfl rfl rfl ?_
        refine awl_val hτ rfl rfl rfl ?_
        refine awl_nil ?_
        refine aw_seq ?_
        refine aw_region ?_
        refine awl_val hτ rfl rfl rfl ?_
        refine awl_val hτ rfl rfl rfl ?_
        refine awl_val hτ rfl rfl rfl ?_
        refine awl_val hτ rfl rfl rfl ?_
        refine grd_elim h fun hg55 h => ?_
        refine awl_need hτ (v := .d (.sl false ((sub list_ v37 (w64 (v37 + (1 : Int)))).map eSOutage))) rfl rfl (Eq.trans rfl (or_dsub (f := eSOutage) list_ v37 (w64 (v37 + (1 : Int))))) (dsub_need (f := eSOutage) (fun _ => rfl) hg55) ?_
        refine bnd_elim h fun x56 hx56 h => ?_
        refine awl_callP hτ false [0] rfl rfl rfl (enterOk func178 rfl rfl) rfl rfl (by simp) ⟨trivial, trivial, trivial⟩ (by repeat' first | exact trivial | refine ⟨?_, ?_⟩) (impl_Feeder_customerSums_ok n f_ (sub list_ v37 (w64 (v37 + (1 : Int)))) hx56) ?_
        rintro r0 o0 n0 ⟨rfl, rfl, rfl⟩ -
        refine awl_val hτ rfl rfl rfl ?_
        refine awl_val hτ rfl rfl rfl ?_
        refine awl_val hτ rfl rfl rfl ?_
        refine awl_weak (weak_ofP [0] (l := [(1, .d (.sl false (list_.map eSOutage))), (2, .ptr 0 0), (7, .d (.int .i64 v35)), (8, .d (.int .i64 v36)), (9, .d (.int .i64 v37)), (22, .d (.int .i64 (list_.length : Int))), (23, .d (.int .i64 v37)), (33, .d (.int .i64 x56.1)), (34, .d (.int .i64 x56.2))]) (objs := [.box [.d (.cx .f32 f_.Source.A.re f_.Source.A.im), .d (.cx .f32 f_.Source.B.re f_.Source.B.im), .d (.cx .f32 f_.Source.C.re f_.Source.C.im), .d (.sl false (f_.Buses.map eSBus))]]) rfl (by simp) rfl (by repeat' first | exact trivial | refine ⟨?_, ?_⟩) ⟨rfl, trivial, rfl, trivial, rfl, trivial, rfl, trivial, rfl, trivial, rfl, trivial, rfl, trivial, rfl, trivial, rfl, trivial, trivial⟩) ?_
        refine awl_val hτ rfl rfl rfl ?_
        refine awl_val hτ rfl rfl rfl ?_
        refine awl_nil ?_
        refine aw_seq ?_
        refine aw_region ?_
        refine awl_val hτ rfl rfl rfl ?_
        refine awl_val hτ rfl rfl rfl ?_
        refine awl_val hτ rfl rfl rfl ?_
        refine awl_nil ?_
        refine aw_cond rfl (fun hc57 => ?_) (fun hc57 => ?_)
        · have h := if_t h hc57
          refine aw_region ?_
          refine awl_val hτ rfl rfl rfl ?_
          refine awl_val hτ rfl rfl rfl ?_
          refine awl_val hτ rfl rfl rfl ?_
          refine awl_val hτ rfl rfl rfl ?_
          refine awl_nil ?_
          refine aw_weak (weak_ofP [0] (l := [(1, .d (.sl false (list_.map eSOutage))), (2, .ptr 0 0), (7, .d (.int .i64 v37)), (8, .d (.int .i64 x56.1)), (22, .d (.int .i64 (list_.length : Int))), (23, .d (.int .i64 v37))]) (objs := [.box [.d (.cx .f32 f_.Source.A.re f_.Source.A.im), .d (.cx .f32 f_.Source.B.re f_.Source.B.im), .d (.cx .f32 f_.Source.C.re f_.Source.C.im), .d (.sl false (f_.Buses.map eSBus))]]) rfl (by simp) rfl (by repeat' first | exact trivial | refine ⟨?_, ?_⟩) ⟨rfl, trivial, rfl, trivial, rfl, trivial, rfl, trivial, rfl, trivial, rfl, trivial, trivial⟩) ?_
          exact hk54 (v37, x56.1) h
        · have h := if_f h hc57
          refine aw_skip ?_
          refine aw_weak (weak_ofP [0] (l := [(1, .d (.sl false (list_.map eSOutage))), (2, .ptr 0 0), (7, .d (.int .i64 v35)), (8, .d (.int .i64 v36)), (22, .d (.int .i64 (list_.length : Int))), (23, .d (.int .i64 v37))]) (objs := [.box [.d (.cx .f32 f_.Source.A.re f_.Source.A.im), .d (.cx .f32 f_.Source.B.re f_.Source.B.im), .d (.cx .f32 f_.Source.C.re f_.Source.C.im), .d (.sl false (f_.Buses.map eSBus))]]) rfl (by simp) rfl (by repeat' first | exact trivial | refine ⟨?_, ?_⟩) ⟨rfl, trivial, rfl, trivial, rfl, trivial, rfl, trivial, rfl, trivial, rfl, trivial, trivial⟩) ?_
          exact hk54 (v35, v36) h
    · have h := if_f h hc47
      refine aw_exit ?_
      refine aw_seq ?_
      refine aw_region ?_
      refine awl_val hτ rfl rfl rfl ?_
      refine awl_val hτ rfl rfl rfl ?_
      refine awl_val hτ rfl rfl rfl ?_
      refine awl_val hτ rfl rfl rfl ?_
      refine awl_val hτ rfl rfl rfl ?_
      refine awl_nil ?_
      refine aw_weak (weak_ofP [] (l := [(4, .d (.int .i64 v35)), (5, .d (.int .i64 v36)), (6, .d (.bool true))]) (objs := []) rfl (by simp) rfl (by repeat' first | exact trivial | refine ⟨?_, ?_⟩) ⟨rfl, trivial, rfl, trivial, rfl, trivial, trivial⟩) ?_
      refine aw_ret ?_
      have hr := Option.some.inj h
      subst hr
      exact ret_objs (.inr rfl) [] (objs' := []) (new := []) rfl (by simp) (by simp) rfl (by repeat' first | exact trivial | refine ⟨?_, ?_⟩) rfl rfl (by repeat' first | exact trivial | refine ⟨?_, ?_⟩) (fun _ => ⟨by simp [V.flat, V.flatA, V.flatC, D.flat], flat_nil⟩) ⟨rfl, rfl, rfl⟩
  · refine aw_seq ?_
    refine aw_hk1 (ι := Bool) (fun v62 => St.of [(1, .d (.sl false (list_.map eSOutage))), (2, .ptr 0 0), (20, .d (.bool v62))] [.box [.d (.cx .f32 f_.Source.A.re f_.Source.A.im), .d (.cx .f32 f_.Source.B.re f_.Source.B.im), .d (.cx .f32 f_.Source.C.re f_.Source.C.im), .d (.sl false (f_.Buses.map eSBus))]] f83.ntmps 0) (fun v62 => m_impl_WorstOutage_j4 n f_ list_ v62 = some r) ?_ (fun hk64 => ?_)
    · rintro v62 h
      replace h : m_impl_WorstOutage_j4 n f_ list_ v62 = some r := h
      unfold m_impl_WorstOutage_j4 at h
      refine aw_cond rfl (fun hc63 => ?_) (fun hc63 => ?_)
      · have h := if_bt h hc63
        refine aw_seq ?_
        refine aw_region ?_
        refine awl_val hτ rfl rfl rfl ?_
        refine awl_val hτ rfl rfl rfl ?_
        refine awl_val hτ rfl rfl rfl ?_
        refine awl_nil ?_
        refine aw_weak (weak_ofP [] (l := [(4, .d (.int .i64 (0 : Int))), (5, .d (.int .i64 (0 : Int))), (6, .d (.bool false))]) (objs := []) rfl (by simp) rfl (by repeat' first | exact trivial | refine ⟨?_, ?_⟩) ⟨rfl, trivial, rfl, trivial, rfl, trivial, trivial⟩) ?_
        refine aw_ret ?_
        have hr := Option.some.inj h
        subst hr
        exact ret_objs (.inr rfl) [] (objs' := []) (new := []) rfl (by simp) (by simp) rfl (by repeat' first | exact trivial | refine ⟨?_, ?_⟩) rfl rfl (by repeat' first | exact trivial | refine ⟨?_, ?_⟩) (fun _ => ⟨by simp [V.flat, V.flatA, V.flatC, D.flat], flat_nil⟩) ⟨rfl, rfl, rfl⟩
      · have h := if_bf h hc63
        refine aw_skip ?_
        refine aw_weak (weak_ofP [0] (l := [(1, .d (.sl false (list_.map eSOutage))), (2, .ptr 0 0)]) (objs := [.box [.d (.cx .f32 f_.Source.A.re f_.Source.A.im), .d (.cx .f32 f_.Source.B.re f_.Source.B.im), .d (.cx .f32 f_.Source.C.re f_.Source.C.im), .d (.sl false (f_.Buses.map eSBus))]]) rfl (by simp) rfl (by repeat' first | exact trivial | refine ⟨?_, ?_⟩) ⟨rfl, trivial, rfl, trivial, trivial⟩) ?_
        exact hk58 () h
    · refine aw_seq ?_
      refine aw_region ?_
      refine awl_val hτ rfl rfl rfl ?_
      refine awl_val hτ rfl rfl rfl ?_
      refine bnd_elim h fun x65 hx65 h => ?_
      refine awl_callP hτ false [] rfl rfl rfl (enterOk func81 rfl rfl) rfl rfl (by simp) ⟨(by repeat' first | exact trivial | refine ⟨?_, ?_⟩), trivial, trivial⟩ (by repeat' first | exact trivial | refine ⟨?_, ?_⟩) (impl_AreOutages_ok n f_ list_ hx65) ?_
      rintro r0 o0 n0 ⟨rfl, rfl, rfl⟩ -
      refine awl_val hτ rfl rfl rfl ?_
      refine awl_val hτ rfl rfl rfl ?_
      refine awl_split 16 rfl (fun hb66 => ?_) (fun hb66 => ?_)
      · have hb66 := not_t hb66
        have h := if_bf h hb66
        refine awl_skip rfl rfl ?_
        refine awl_skip rfl rfl ?_
        refine awl_skip rfl rfl ?_
        refine awl_weak (weak_ofP [0] (l := [(1, .d (.sl false (list_.map eSOutage))), (2, .ptr 0 0), (16, .d (.bool true)), (19, .und)]) (objs := [.box [.d (.cx .f32 f_.Source.A.re f_.Source.A.im), .d (.cx .f32 f_.Source.B.re f_.Source.B.im), .d (.cx .f32 f_.Source.C.re f_.Source.C.im), .d (.sl false (f_.Buses.map eSBus))]]) rfl (by simp) rfl (by repeat' first | exact trivial | refine ⟨?_, ?_⟩) ⟨rfl, trivial, rfl, trivial, rfl, trivial, rfl, trivial, trivial⟩) ?_
        refine awl_val hτ rfl rfl rfl ?_
        refine awl_nil ?_
        refine aw_weak (weak_ofP [0] (l := [(1, .d (.sl false (list_.map eSOutage))), (2, .ptr 0 0), (20, .d (.bool true))]) (objs := [.box [.d (.cx .f32 f_.Source.A.re f_.Source.A.im), .d (.cx .f32 f_.Source.B.re f_.Source.B.im), .d (.cx .f32 f_.Source.C.re f_.Source.C.im), .d (.sl false (f_.Buses.map eSBus))]]) rfl (by simp) rfl (by repeat' first | exact trivial | refine ⟨?_, ?_⟩) ⟨rfl, trivial, rfl, trivial, rfl, trivial, trivial⟩) ?_
        exact hk64 true h
      · have hb66 := not_f hb66
        have h := if_bt h hb66
        refine awl_val hτ rfl rfl rfl ?_
        refine awl_val hτ (v := .d (.int .i64 (list_.length : Int))) rfl rfl (Eq.trans rfl (or_len (f := eSOutage) list_)) ?_
        refine awl_val hτ (v := .d (.bool (decide ((list_.length : Int) = (0 : Int))))) rfl rfl (or_ieq _ _) ?_
        refine awl_weak (weak_ofP [0] (l := [(1, .d (.sl false (list_.map eSOutage))), (2, .ptr 0 0), (16, .d (.bool false)), (19, .d (.bool (decide ((list_.length : Int) = (0 : Int)))))]) (objs := [.box [.d (.cx .f32 f_.Source.A.re f_.Source.A.im), .d (.cx .f32 f_.Source.B.re f_.Source.B.im), .d (.cx .f32 f_.Source.C.re f_.Source.C.im), .d (.sl false (f_.Buses.map eSBus))]]) rfl (by simp) rfl (by repeat' first | exact trivial | refine ⟨?_, ?_⟩) ⟨rfl, trivial, rfl, trivial, rfl, trivial, rfl, trivial, trivial⟩) ?_
        refine awl_val hτ rfl rfl rfl ?_
        refine awl_nil ?_
        refine aw_weak (weak_ofP [0] (l := [(1, .d (.sl false (list_.map eSOutage))), (2, .ptr 0 0), (20, .d (.bool (decide ((list_.length : Int) = (0 : Int)))))]) (objs := [.box [.d (.cx .f32 f_.Source.A.re f_.Source.A.im), .d (.cx .f32 f_.Source.B.re f_.Source.B.im), .d (.cx .f32 f_.Source.C.re f_.Source.C.im), .d (.sl false (f_.Buses.map eSBus))]]) rfl (by simp) rfl (by repeat' first | exact trivial | refine ⟨?_, ?_⟩) ⟨rfl, trivial, rfl, trivial, rfl, trivial, trivial⟩) ?_
        exact hk64 (decide ((list_.length : Int) = (0 : Int))) h
theorem impl_WorstOutage_ok (n : Nat) (f_ : SFeeder) (list_ : List SOutage) {r : Int × Int × Bool} (h : m_impl_WorstOutage n f_ list_ = some r) : ACall prog false 83 [.agg [.d (.cx .f32 f_.Source.A.re f_.Source.A.im), .d (.cx .f32 f_.Source.B.re f_.Source.B.im), .d (.cx .f32 f_.Source.C.re f_.Source.C.im), .d (.sl false (f_.Buses.map eSBus))], .d (.sl false (list_.map eSOutage))] [] (fun v o new => v = .tup [.d (.int .i64 r.1), .d (.int .i64 r.2.1), .d (.bool r.2.2)] ∧ o = [] ∧ new = []) := impl_WorstOutage_ok_fr0 false n f_ list_ h
theorem impl_WorstOutage_ok_fr (n : Nat) (f_ : SFeeder) (list_ : List SOutage) {r : Int × Int × Bool} (h : m_impl_WorstOutage n f_ list_ = some r) : ACall prog true 83 [.agg [.d (.cx .f32 f_.Source.A.re f_.Source.A.im), .d (.cx .f32 f_.Source.B.re f_.Source.B.im), .d (.cx .f32 f_.Source.C.re f_.Source.C.im), .d (.sl false (f_.Buses.map eSBus))], .d (.sl false (list_.map eSOutage))] [] (fun v o new => v = .tup [.d (.int .i64 r.1), .d (.int .i64 r.2.1), .d (.bool r.2.2)] ∧ o = [] ∧ new = []) := impl_WorstOutage_ok_fr0 true n f_ list_ h

def m_laws_FnDark_j6 (n : Nat) (k272 : Int → Option Bool) (v262 : Int) : Option Bool :=
  k272 (w64 (v262 + (1 : Int)))
def m_laws_FnDark_j7 (n : Nat) (k272 : Int → Option Bool) (v262 : Int) (v289 : Bool) : Option Bool :=
  if v289 = true then
    some false
  else
    m_laws_FnDark_j6 n k272 v262
def m_laws_FnDark_l5 (n : Nat) (x135 : SFeeder) (x136 : List SOutage) (x253 : Int × Int × Bool) : Nat → Int → Option Bool
  | 0, _ => none
  | m271 + 1, v262 =>
    if v262 < (x136.length : Int) then
      (getI x136 v262).bind fun x282 =>
      (m_impl_CustomerTicks n (SFeeder.mk x135.Source x135.Buses) [x282]).bind fun x283 =>
      if x283.2 = true then
        if x283.1 > x253.2.1 then
          m_laws_FnDark_j7 n (m_laws_FnDark_l5 n x135 x136 x253 m271) v262 true
        else
          if v262 = x253.1 then
            m_laws_FnDark_j7 n (m_laws_FnDark_l5 n x135 x136 x253 m271) v262 (!(decide (x283.1 = x253.2.1)))
          else
            m_laws_FnDark_j7 n (m_laws_FnDark_l5 n x135 x136 x253 m271) v262 false
      else
        m_laws_FnDark_j7 n (m_laws_FnDark_l5 n x135 x136 x253 m271) v262 true
    else
      some true
def m_laws_FnDark_j4 (n : Nat) (x135 : SFeeder) (x136 : List SOutage) : Option Bool :=
  (m_impl_WorstOutage n (SFeeder.mk x135.Source x135.Buses) x136).bind fun x253 =>
  if (x253.2.2 == (decide ((x136.length : Int) > (0 : Int)))) = true then
    m_laws_FnDark_l5 n x135 x136 x253 n (0 : Int)
  else
    some false
def m_laws_FnDark_j8 (n : Nat) (x135 : SFeeder) (x136 : List SOutage) (v302 : Bool) : Option Bool :=
  if v302 = true then
    some false
  else
    m_laws_FnDark_j4 n x135 x136
def m_laws_FnDark_j3 (n : Nat) (x135 : SFeeder) (x136 : List SOutage) (v231 : Int) (v232 : Int) (v233 : Int) (x237 : Nat × Nat × Nat × Bool) : Option Bool :=
  (m_laws_b10Share n v231 v233).bind fun x305 =>
  if (fcmp .neq .f32 x237.1 x305) = true then
    m_laws_FnDark_j8 n x135 x136 true
  else
    (m_laws_b10Share n v232 v233).bind fun x307 =>
    if (fcmp .neq .f32 x237.2.1 x307) = true then
      m_laws_FnDark_j8 n x135 x136 true
    else
      (m_laws_b10Share n v231 v232).bind fun x309 =>
      m_laws_FnDark_j8 n x135 x136 (fcmp .neq .f32 x237.2.2.1 x309)
def m_laws_FnDark_j9 (n : Nat) (x135 : SFeeder) (x136 : List SOutage) (v231 : Int) (v232 : Int) (v233 : Int) (x237 : Nat × Nat × Nat × Bool) (v320 : Bool) : Option Bool :=
  if v320 = true then
    some false
  else
    m_laws_FnDark_j3 n x135 x136 v231 v232 v233 x237
def m_laws_FnDark_j2 (n : Nat) (x135 : SFeeder) (x136 : List SOutage) (v231 : Int) (v232 : Int) (v233 : Int) : Option Bool :=
  (m_impl_CustomerTicks n (SFeeder.mk x135.Source x135.Buses) x136).bind fun x234 =>
  (m_impl_CustomerTimes n (SFeeder.mk x135.Source x135.Buses) x136).bind fun x235 =>
  (m_impl_AllCustomers n (SFeeder.mk x135.Source x135.Buses)).bind fun x236 =>
  (m_impl_IndicesOf n (SFeeder.mk x135.Source x135.Buses) x136).bind fun x237 =>
  if x234.2 = true then
    if x235.2 = true then
      if x236.2 = true then
        if x237.2.2.2 = true then
          (m_impl_AreOutages n (SFeeder.mk x135.Source x135.Buses) x136).bind fun x327 =>
          if x327 = true then
            if x234.1 = v231 then
              if x235.1 = v232 then
                m_laws_FnDark_j9 n x135 x136 v231 v232 v233 x237 (!(decide (x236.1 = v233)))
              else
                m_laws_FnDark_j9 n x135 x136 v231 v232 v233 x237 true
            else
              m_laws_FnDark_j9 n x135 x136 v231 v232 v233 x237 true
          else
            m_laws_FnDark_j9 n x135 x136 v231 v232 v233 x237 true
        else
          m_laws_FnDark_j9 n x135 x136 v231 v232 v233 x237 true
      else
        m_laws_FnDark_j9 n x135 x136 v231 v232 v233 x237 true
    else
      m_laws_FnDark_j9 n x135 x136 v231 v232 v233 x237 true
  else
    m_laws_FnDark_j9 n x135 x136 v231 v232 v233 x237 true
def m_laws_FnDark_j11 (n : Nat) (k359 : Int → Int → Int → Int → Option Bool) (v344 : Int) (v370 : Int) (v371 : Int) (v372 : Int) : Option Bool :=
  k359 v370 v371 v372 (w64 (v344 + (1 : Int)))
def m_laws_FnDark_j12 (n : Nat) (x135 : SFeeder) (k359 : Int → Int → Int → Int → Option Bool) (v341 : Int) (v342 : Int) (v343 : Int) (v344 : Int) (x374 : Int × Bool) (x375 : Int × Bool) : Option Bool :=
  (getI x135.Buses v344).bind fun x382 =>
  m_laws_FnDark_j11 n k359 v344 (w64 (v341 + (w64 (x374.1 * x382.Customers)))) (w64 (v342 + (w64 (x375.1 * x382.Customers)))) (w64 (v343 + x382.Customers))
def m_laws_FnDark_j13 (n : Nat) (x135 : SFeeder) (k359 : Int → Int → Int → Int → Option Bool) (v341 : Int) (v342 : Int) (v343 : Int) (v344 : Int) (x374 : Int × Bool) (x375 : Int × Bool) (v390 : Bool) : Option Bool :=
  if v390 = true then
    some false
  else
    m_laws_FnDark_j12 n x135 k359 v341 v342 v343 v344 x374 x375
def m_laws_FnDark_l10 (n : Nat) (x135 : SFeeder) (x136 : List SOutage) (v203 : List Int) (v204 : List Int) : Nat → Int → Int → Int → Int → Option Bool
  | 0, _, _, _, _ => none
  | m358 + 1, v341, v342, v343, v344 =>
    if v344 < (x135.Buses.length : Int) then
      (m_impl_DarkTicks n (SFeeder.mk x135.Source x135.Buses) x136 v344).bind fun x374 =>
      (m_impl_DarkTimes n (SFeeder.mk x135.Source x135.Buses) x136 v344).bind fun x375 =>
      if x374.2 = true then
        if x375.2 = true then
          (getI v203 v344).bind fun x395 =>
          if x374.1 = x395 then
            (getI v204 v344).bind fun x397 =>
            m_laws_FnDark_j13 n x135 (m_laws_FnDark_l10 n x135 x136 v203 v204 m358) v341 v342 v343 v344 x374 x375 (!(decide (x375.1 = x397)))
          else
            m_laws_FnDark_j13 n x135 (m_laws_FnDark_l10 n x135 x136 v203 v204 m358) v341 v342 v343 v344 x374 x375 true
        else
          m_laws_FnDark_j13 n x135 (m_laws_FnDark_l10 n x135 x136 v203 v204 m358) v341 v342 v343 v344 x374 x375 true
      else
        m_laws_FnDark_j13 n x135 (m_laws_FnDark_l10 n x135 x136 v203 v204 m358) v341 v342 v343 v344 x374 x375 true
    else
      m_laws_FnDark_j2 n x135 x136 v341 v342 v343
def m_laws_FnDark_j1 (n : Nat) (x135 : SFeeder) (x136 : List SOutage) (v203 : List Int) (v204 : List Int) : Option Bool :=
  m_laws_FnDark_l10 n x135 x136 v203 v204 n (0 : Int) (0 : Int) (0 : Int) (0 : Int)
def m_laws_FnDark_j15 (n : Nat) (k463 : List Int → List Int → List Bool → Int → Option Bool) (v429 : Int) (v493 : List Int) (v494 : List Int) (v495 : List Bool) : Option Bool :=
  k463 v493 v494 v495 (w64 (v429 + (1 : Int)))
def m_laws_FnDark_j18 (n : Nat) (k526 : List Int → List Int → List Bool → Int → Option Bool) (v512 : Int) (v536 : List Int) (v537 : List Int) (v538 : List Bool) : Option Bool :=
  k526 v536 v537 v538 (w64 (v512 + (1 : Int)))
def m_laws_FnDark_j19 (n : Nat) (k526 : List Int → List Int → List Bool → Int → Option Bool) (v511 : List Bool) (v512 : Int) (x540 : Bool) (v547 : List Int) (v548 : List Int) : Option Bool :=
  (getI v511 v512).bind fun x549 =>
  m_laws_FnDark_j18 n k526 v512 v547 v548 (v511.set v512.toNat x540)
def m_laws_FnDark_l17 (n : Nat) (x135 : SFeeder) (k463 : List Int → List Int → List Bool → Int → Option Bool) (v429 : Int) (x497 : List Int × Bool) : Nat → List Int → List Int → List Bool → Int → Option Bool
  | 0, _, _, _, _ => none
  | m525 + 1, v509, v510, v511, v512 =>
    if v512 < (x135.Buses.length : Int) then
      (m_laws_b10Has n x497.1 v512).bind fun x540 =>
      if x540 = true then
        (getI v509 v512).bind fun x552 =>
        (getI v511 v512).bind fun x553 =>
        if x553 = true then
          m_laws_FnDark_j19 n (m_laws_FnDark_l17 n x135 k463 v429 x497 m525) v511 v512 x540 (v509.set v512.toNat (w64 (x552 + (1 : Int)))) v510
        else
          (getI v510 v512).bind fun x555 =>
          m_laws_FnDark_j19 n (m_laws_FnDark_l17 n x135 k463 v429 x497 m525) v511 v512 x540 (v509.set v512.toNat (w64 (x552 + (1 : Int)))) (v510.set v512.toNat (w64 (x555 + (1 : Int))))
      else
        m_laws_FnDark_j19 n (m_laws_FnDark_l17 n x135 k463 v429 x497 m525) v511 v512 x540 v509 v510
    else
      m_laws_FnDark_j15 n k463 v429 v509 v510 v511
def m_laws_FnDark_j16 (n : Nat) (x135 : SFeeder) (k463 : List Int → List Int → List Bool → Int → Option Bool) (v426 : List Int) (v427 : List Int) (v428 : List Bool) (v429 : Int) (x497 : List Int × Bool) : Option Bool :=
  m_laws_FnDark_l17 n x135 k463 v429 x497 n v426 v427 v428 (0 : Int)
def m_laws_FnDark_j20 (n : Nat) (x135 : SFeeder) (k463 : List Int → List Int → List Bool → Int → Option Bool) (v426 : List Int) (v427 : List Int) (v428 : List Bool) (v429 : Int) (x497 : List Int × Bool) (v560 : Bool) : Option Bool :=
  if v560 = true then
    some false
  else
    m_laws_FnDark_j16 n x135 k463 v426 v427 v428 v429 x497
def m_laws_FnDark_l14 (n : Nat) (x135 : SFeeder) (x136 : List SOutage) : Nat → List Int → List Int → List Bool → Int → Option Bool
  | 0, _, _, _, _ => none
  | m462 + 1, v426, v427, v428, v429 =>
    if v429 < (32 : Int) then
      (m_impl_DarkBuses n (SFeeder.mk x135.Source x135.Buses) x136 v429).bind fun x497 =>
      if x497.2 = true then
        (m_laws_b10Has n x497.1 (0 : Int)).bind fun x564 =>
        m_laws_FnDark_j20 n x135 (m_laws_FnDark_l14 n x135 x136 m462) v426 v427 v428 v429 x497 x564
      else
        m_laws_FnDark_j20 n x135 (m_laws_FnDark_l14 n x135 x136 m462) v426 v427 v428 v429 x497 true
    else
      m_laws_FnDark_j1 n x135 x136 v426 v427
def m_laws_FnDark (n : Nat) (code_ : List Int) (more_ : List Int) : Option Bool :=
  (m_laws_b10Long n code_ more_).bind fun x133 =>
  if x133 = true then
    some true
  else
    (m_spec_B10Feeder n code_).bind fun x135 =>
    (m_spec_B10Outages n more_ (SFeeder.mk x135.Source x135.Buses)).bind fun x136 =>
    grd (0 ≤ (x135.Buses.length : Int) ∧ room (x135.Buses.length : Int).toNat 8) <|
    grd (0 ≤ (x135.Buses.length : Int) ∧ room (x135.Buses.length : Int).toNat 8) <|
    grd (0 ≤ (x135.Buses.length : Int) ∧ room (x135.Buses.length : Int).toNat 1) <|
    m_laws_FnDark_l14 n x135 x136 n (List.replicate (x135.Buses.length : Int).toNat (0 : Int)) (List.replicate (x135.Buses.length : Int).toNat (0 : Int)) (List.replicate (x135.Buses.length : Int).toNat false) (0 : Int)
theorem laws_FnDark_ok_fr0 (fr : Bool) (n : Nat) (code_ : List Int) (more_ : List Int) {r : Bool} (h : m_laws_FnDark n code_ more_ = some r) : ACall prog fr 9 [.d (.sl false (code_.map eIntu8)), .d (.sl false (more_.map eIntu8))] [] (fun v o new => v = .d (.bool r) ∧ o = [] ∧ new = []) := by
  refine acall_of_aw hτ func9 rfl (by simp) (by simp) ?_
  unfold m_laws_FnDark at h
  refine aw_seq ?_
  refine aw_region ?_
  refine awl_val hτ rfl rfl rfl ?_
  refine awl_nil ?_
  refine aw_seq ?_
  refine aw_seq ?_
  refine aw_region ?_
  refine awl_val hτ rfl rfl rfl ?_
  refine awl_val hτ rfl rfl rfl ?_
  refine bnd_elim h fun x133 hx133 h => ?_
  refine awl_callP hτ false [] rfl rfl rfl (enterOk func13 rfl rfl) rfl rfl (by simp) ⟨trivial, trivial, trivial⟩ (by repeat' first | exact trivial | refine ⟨?_, ?_⟩) (laws_b10Long_ok n code_ more_ hx133) ?_
  rintro r0 o0 n0 ⟨rfl, rfl, rfl⟩ -
  refine awl_nil ?_
  refine aw_cond rfl (fun hc134 => ?_) (fun hc134 => ?_)
  · have h := if_bt h hc134
    refine aw_seq ?_
    refine aw_region ?_
    refine awl_val hτ rfl rfl rfl ?_
    refine awl_nil ?_
    refine aw_weak (weak_ofP [] (l := [(4, .d (.bool true))]) (objs := []) rfl (by simp) rfl (by repeat' first | exact trivial | refine ⟨?_, ?_⟩) ⟨rfl, trivial, trivial⟩) ?_
    refine aw_ret ?_
    have hr := Option.some.inj h
    subst hr
    exact ret_objs (.inr rfl) [] (objs' := []) (new := []) rfl (by simp) (by simp) rfl (by repeat' first | exact trivial | refine ⟨?_, ?_⟩) rfl rfl (by repeat' first | exact trivial | refine ⟨?_, ?_⟩) (fun _ => ⟨by simp [V.flat, V.flatA, V.flatC, D.flat], flat_nil⟩) ⟨rfl, rfl, rfl⟩
  · have h := if_bf h hc134
    refine aw_skip ?_
    refine aw_seq ?_
    refine aw_region ?_
    refine awl_val hτ rfl rfl rfl ?_
    refine bnd_elim h fun x135 hx135 h => ?_
    refine awl_callP hτ false [] rfl rfl rfl (enterOk func14 rfl rfl) rfl rfl (by simp) ⟨trivial, trivial⟩ (by repeat' first | exact trivial | refine ⟨?_, ?_⟩) (spec_B10Feeder_ok n code_ hx135) ?_
    rintro r0 o0 n0 ⟨rfl, rfl, rfl⟩ -
    refine awl_valH hτ rfl rfl rfl ?_
    refine awl_valH hτ rfl rfl rfl ?_
    refine awl_nil ?_
    refine aw_seq ?_
    refine aw_weak (weak_ofP [1, 0] (l := [(1, .d (.sl false (more_.map eIntu8))), (5, .ptr 0 0)]) (objs := [.box [.d (.cx .f32 x135.Source.A.re x135.Source.A.im), .d (.cx .f32 x135.Source.B.re x135.Source.B.im), .d (.cx .f32 x135.Source.C.re x135.Source.C.im), .row 1 x135.Buses.length 0 x135.Buses.length], .row 8 (x135.Buses.map eSBus)]) rfl (by simp) rfl (by repeat' first | exact trivial | refine ⟨?_, ?_⟩) ⟨rfl, trivial, rfl, trivial, trivial⟩) ?_
    refine aw_region ?_
    refine awl_val hτ rfl rfl rfl ?_
    refine awl_val hτ rfl rfl rfl ?_
    refine awl_weak (weak_ofP [0, 1] (l := [(5, .ptr 0 0), (45, .d (.sl false (more_.map eIntu8))), (46, .agg [.d (.cx .f32 x135.Source.A.re x135.Source.A.im), .d (.cx .f32 x135.Source.B.re x135.Source.B.im), .d (.cx .f32 x135.Source.C.re x135.Source.C.im), .row 1 x135.Buses.length 0 x135.Buses.length])]) (objs := [.box [.d (.cx .f32 x135.Source.A.re x135.Source.A.im), .d (.cx .f32 x135.Source.B.re x135.Source.B.im), .d (.cx .f32 x135.Source.C.re x135.Source.C.im), .row 1 x135.Buses.length 0 x135.Buses.length], .row 8 (x135.Buses.map eSBus)]) rfl (by simp) rfl (by repeat' first | exact trivial | refine ⟨?_, ?_⟩) ⟨rfl, trivial, rfl, trivial, rfl, (by repeat' first | exact trivial | refine ⟨?_, ?_⟩), trivial⟩) ?_
    refine bnd_elim h fun x136 hx136 h => ?_
    refine awl_callP hτ true [] rfl rfl rfl (enterOk func73 rfl rfl) (mapO_cons rfl (mapO_cons (exV_agg (mapO_cons rfl (mapO_cons rfl (mapO_cons rfl (mapO_cons (exC_view (f := eSBus) x135.Buses rfl rfl rfl) mapO_nil))))) mapO_nil)) rfl (by simp) ⟨trivial, ⟨trivial, trivial, trivial, (exP_view (f := eSBus) x135.Buses rfl rfl rfl)⟩, trivial⟩ (by repeat' first | exact trivial | refine ⟨?_, ?_⟩) (spec_B10Outages_ok_fr n more_ (SFeeder.mk x135.Source x135.Buses) hx136) ?_
    rintro r0 o0 n0 ⟨rfl, rfl, rfl⟩ -
    refine awl_val hτ rfl rfl rfl ?_
    refine awl_nil ?_
    refine aw_seq ?_
    refine aw_region ?_
    refine awl_val hτ rfl rfl rfl ?_
    refine awl_val hτ rfl rfl rfl ?_
    refine awl_need hτ rfl rfl rfl (len_map _) ?_
    refine awl_val hτ rfl rfl rfl ?_
    refine awl_nil ?_
    refine aw_seq ?_
    refine aw_weak (weak_ofP [0, 1, 2] (l := [(5, .ptr 0 0), (6, .row 2 x136.length 0 x136.length), (7, .d (.int .i64 (x135.Buses.length : Int)))]) (objs := [.box [.d (.cx .f32 x135.Source.A.re x135.Source.A.im), .d (.cx .f32 x135.Source.B.re x135.Source.B.im), .d (.cx .f32 x135.Source.C.re x135.Source.C.im), .row 1 x135.Buses.length 0 x135.Buses.length], .row 8 (x135.Buses.map eSBus), .row 3 (x136.map eSOutage)]) rfl (by simp) rfl (by repeat' first | exact trivial | refine ⟨?_, ?_⟩) ⟨rfl, trivial, rfl, trivial, rfl, trivial, trivial⟩) ?_
    refine aw_region ?_
    refine awl_val hτ rfl rfl rfl ?_
    refine grd_elim h fun hg137 h => ?_
    refine awl_needH hτ rfl rfl (Eq.trans rfl (or_make (f := eInti64) (x := (0 : Int)) rfl)) (make_need hg137 (by decide)) ?_
    refine awl_val hτ rfl rfl rfl ?_
    refine awl_nil ?_
    refine aw_seq ?_
    refine aw_region ?_
    refine awl_val hτ rfl rfl rfl ?_
    refine grd_elim h fun hg138 h => ?_
    refine awl_needH hτ rfl rfl (Eq.trans rfl (or_make (f := eInti64) (x := (0 : Int)) rfl)) (make_need hg138 (by decide)) ?_
    refine awl_val hτ rfl rfl rfl ?_
    refine awl_nil ?_
    refine aw_seq ?_
    refine aw_weak (weak_ofP [0, 1, 2, 3, 4] (l := [(5, .ptr 0 0), (6, .row 2 x136.length 0 x136.length), (7, .d (.int .i64 (x135.Buses.length : Int))), (8, .row 3 ((List.replicate (x135.Buses.length : Int).toNat (0 : Int)).length) 0 ((List.replicate (x135.Buses.length : Int).toNat (0 : Int)).length)), (9, .row 4 ((List.replicate (x135.Buses.length : Int).toNat (0 : Int)).length) 0 ((List.replicate (x135.Buses.length : Int).toNat (0 : Int)).length))]) (objs := [.box [.d (.cx .f32 x135.Source.A.re x135.Source.A.im), .d (.cx .f32 x135.Source.B.re x135.Source.B.im), .d (.cx .f32 x135.Source.C.re x135.Source.C.im), .row 1 x135.Buses.length 0 x135.Buses.length], .row 8 (x135.Buses.map eSBus), .row 3 (x136.map eSOutage), .row 1 ((List.replicate (x135.Buses.length : Int).toNat (0 : Int)).map eInti64), .row 1 ((List.replicate (x135.Buses.length : Int).toNat (0 : Int)).map eInti64)]) rfl (by simp) rfl (by repeat' first | exact trivial | refine ⟨?_, ?_⟩) ⟨rfl, trivial, rfl, trivial, rfl, trivial, rfl, trivial, rfl, trivial, trivial⟩) ?_
    refine aw_region ?_
    refine awl_val hτ rfl rfl rfl ?_
    refine grd_elim h fun hg139 h => ?_
    refine awl_needH hτ rfl rfl (Eq.trans rfl (or_make (f := eBool) (x := false) rfl)) (make_need hg139 (by decide)) ?_
    refine awl_val hτ rfl rfl rfl ?_
    refine awl_nil ?_
    refine aw_hk1 (ι := List Int × List Int) (fun (v203, v204) => St.of [(5, .ptr 0 0), (6, .row 2 x136.length 0 x136.length), (8, .row 3 v203.length 0 v203.length), (9, .row 4 v204.length 0 v204.length)] [.box [.d (.cx .f32 x135.Source.A.re x135.Source.A.im), .d (.cx .f32 x135.Source.B.re x135.Source.B.im), .d (.cx .f32 x135.Source.C.re x135.Source.C.im), .row 1 x135.Buses.length 0 x135.Buses.length], .row 8 (x135.Buses.map eSBus), .row 3 (x136.map eSOutage), .row 1 (v203.map eInti64), .row 1 (v204.map eInti64)] f9.ntmps 0) (fun (v203, v204) => m_laws_FnDark_j1 n x135 x136 v203 v204 = some r) ?_ (fun hk398 => ?_)
    · rintro ⟨v203, v204⟩ h
      replace h : m_laws_FnDark_j1 n x135 x136 v203 v204 = some r := h
      unfold m_laws_FnDark_j1 at h
      refine aw_seq ?_
      refine aw_region ?_
      refine awl_val hτ rfl rfl rfl ?_
      refine awl_nil ?_
      refine aw_seq ?_
      refine aw_region ?_
      refine awl_val hτ rfl rfl rfl ?_
      refine awl_nil ?_
      refine aw_seq ?_
      refine aw_region ?_
      refine awl_val hτ rfl rfl rfl ?_
      refine awl_nil ?_
      refine aw_hk1 (ι := Int × Int × Int) (fun (v231, v232, v233) => St.of [(5, .ptr 0 0), (6, .row 2 x136.length 0 x136.length), (16, .d (.int .i64 v231)), (17, .d (.int .i64 v232)), (18, .d (.int .i64 v233))] [.box [.d (.cx .f32 x135.Source.A.re x135.Source.A.im), .d (.cx .f32 x135.Source.B.re x135.Source.B.im), .d (.cx .f32 x135.Source.C.re x135.Source.C.im), .row 1 x135.Buses.length 0 x135.Buses.length], .row 8 (x135.Buses.map eSBus), .row 3 (x136.map eSOutage)] f9.ntmps 0) (fun (v231, v232, v233) => m_laws_FnDark_j2 n x135 x136 v231 v232 v233 = some r) ?_ (fun hk331 => ?_)
      · rintro ⟨v231, v232, v233⟩ h
        replace h : m_laws_FnDark_j2 n x135 x136 v231 v232 v233 = some r := h
        unfold m_laws_FnDark_j2 at h
        refine aw_seq ?_
        refine aw_region ?_
        refine awl_val hτ rfl rfl rfl ?_
        refine awl_val hτ rfl rfl rfl ?_
        refine awl_weak (weak_ofP [0, 1, 2] (l := [(5, .ptr 0 0), (6, .row 2 x136.length 0 x136.length), (16, .d (.int .i64 v231)), (17, .d (.int .i64 v232)), (18, .d (.int .i64 v233)), (178, .agg [.d (.cx .f32 x135.Source.A.re x135.Source.A.im), .d (.cx .f32 x135.Source.B.re x135.Source.B.im), .d (.cx .f32 x135.Source.C.re x135.Source.C.im), .row 1 x135.Buses.length 0 x135.Buses.length]), (179, .row 2 x136.length 0 x136.length)]) (objs := [.box [.d (.cx .f32 x135.Source.A.re x135.Source.A.im), .d (.cx .f32 x135.Source.B.re x135.Source.B.im), .d (.cx .f32 x135.Source.C.re x135.Source.C.im), .row 1 x135.Buses.length 0 x135.Buses.length], .row 8 (x135.Buses.map eSBus), .row 3 (x136.map eSOutage)]) rfl (by simp) rfl (by repeat' first | exact trivial | refine ⟨?_, ?_⟩) ⟨rfl, trivial, rfl, trivial, rfl, trivial, rfl, trivial, rfl, trivial, rfl, (by repeat' first | exact trivial | refine ⟨?_, ?_⟩), rfl, trivial, trivial⟩) ?_
        refine bnd_elim h fun x234 hx234 h => ?_
        refine awl_callP hτ true [] rfl rfl rfl (enterOk func77 rfl rfl) (mapO_cons (exV_agg (mapO_cons rfl (mapO_cons rfl (mapO_cons rfl (mapO_cons (exC_view (f := eSBus) x135.Buses rfl rfl rfl) mapO_nil))))) (mapO_cons (exV_view (f := eSOutage) x136 rfl rfl rfl) mapO_nil)) rfl (by simp) ⟨⟨trivial, trivial, trivial, (exP_view (f := eSBus) x135.Buses rfl rfl rfl)⟩, (exVP_view (f := eSOutage) x136 rfl rfl rfl), trivial⟩ (by repeat' first | exact trivial | refine ⟨?_, ?_⟩) (impl_CustomerTicks_ok_fr n (SFeeder.mk x135.Source x135.Buses) x136 hx234) ?_
        rintro r0 o0 n0 ⟨rfl, rfl, rfl⟩ -
        refine awl_val hτ rfl rfl rfl ?_
        refine awl_val hτ rfl rfl rfl ?_
        refine awl_val hτ rfl rfl rfl ?_
        refine awl_val hτ rfl rfl rfl ?_
        refine awl_val hτ rfl rfl rfl ?_
        refine awl_nil ?_
        refine aw_seq ?_
        refine aw_weak (weak_ofP [0, 1, 2] (l := [(5, .ptr 0 0), (6, .row 2 x136.length 0 x136.length), (16, .d (.int .i64 v231)), (17, .d (.int .i64 v232)), (18, .d (.int .i64 v233)), (24, .d (.int .i64 x234.1)), (25, .d (.bool x234.2))]) (objs := [.box [.d (.cx .f32 x135.Source.A.re x135.Source.A.im), .d (.cx .f32 x135.Source.B.re x135.Source.B.im), .d (.cx .f32 x135.Source.C.re x135.Source.C.im), .row 1 x135.Buses.length 0 x135.Buses.length], .row 8 (x135.Buses.map eSBus), .row 3 (x136.map eSOutage)]) rfl (by simp) rfl (by repeat' first | exact trivial | refine ⟨?_, ?_⟩) ⟨rfl, trivial, rfl, trivial, rfl, trivial, rfl, trivial, rfl, trivial, rfl, trivial, rfl, trivial, trivial⟩) ?_
        refine aw_region ?_
        refine awl_val hτ rfl rfl rfl ?_
        refine awl_val hτ rfl rfl rfl ?_
        refine awl_weak (weak_ofP [0, 1, 2] (l := [(5, .ptr 0 0), (6, .row 2 x136.length 0 x136.length), (16, .d (.int .i64 v231)), (17, .d (.int .i64 v232)), (18, .d (.int .i64 v233)), (24, .d (.int .i64 x234.1)), (25, .d (.bool x234.2)), (184, .agg [.d (.cx .f32 x135.Source.A.re x135.Source.A.im), .d (.cx .f32 x135.Source.B.re x135.Source.B.im), .d (.cx .f32 x135.Source.C.re x135.Source.C.im), .row 1 x135.Buses.length 0 x135.Buses.length]), (185, .row 2 x136.length 0 x136.length)]) (objs := [.box [.d (.cx .f32 x135.Source.A.re x135.Source.A.im), .d (.cx .f32 x135.Source.B.re x135.Source.B.im), .d (.cx .f32 x135.Source.C.re x135.Source.C.im), .row 1 x135.Buses.length 0 x135.Buses.length], .row 8 (x135.Buses.map eSBus), .row 3 (x136.map eSOutage)]) rfl (by simp) rfl (by repeat' first | exact trivial | refine ⟨?_, ?_⟩) ⟨rfl, trivial, rfl, trivial, rfl, trivial, rfl, trivial, rfl, trivial, rfl, trivial, rfl, trivial, rfl, (by repeat' first | exact trivial | refine ⟨?_, ?_⟩), rfl, trivial, trivial⟩) ?_
        refine bnd_elim h fun x235 hx235 h => ?_
        refine awl_callP hτ true [] rfl rfl rfl (enterOk func78 rfl rfl) (mapO_cons (exV_agg (mapO_cons rfl (mapO_cons rfl (mapO_cons rfl (mapO_cons (exC_view (f := eSBus) x135.Buses rfl rfl rfl) mapO_nil))))) (mapO_cons (exV_view (f := eSOutage) x136 rfl rfl rfl) mapO_nil)) rfl (by simp) ⟨⟨trivial, trivial, trivial, (exP_view (f := eSBus) x135.Buses rfl rfl rfl)⟩, (exVP_view (f := eSOutage) x136 rfl rfl rfl), trivial⟩ (by repeat' first | exact trivial | refine ⟨?_, ?_⟩) (impl_CustomerTimes_ok_fr n (SFeeder.mk x135.Source x135.Buses) x136 hx235) ?_
        rintro r0 o0 n0 ⟨rfl, rfl, rfl⟩ -
        refine awl_val hτ rfl rfl rfl ?_
        refine awl_val hτ rfl rfl rfl ?_
        refine awl_val hτ rfl rfl rfl ?_
        refine awl_val hτ rfl rfl rfl ?_
        refine awl_val hτ rfl rfl rfl ?_
        refine awl_nil ?_
        refine aw_seq ?_
        refine aw_weak (weak_ofP [0, 1, 2] (l := [(5, .ptr 0 0), (6, .row 2 x136.length 0 x136.length), (16, .d (.int .i64 v231)), (17, .d (.int .i64 v232)), (18, .d (.int .i64 v233)), (24, .d (.int .i64 x234.1)), (25, .d (.bool x234.2)), (26, .d (.int .i64 x235.1)), (27, .d (.bool x235.2))]) (objs := [.box [.d (.cx .f32 x135.Source.A.re x135.Source.A.im), .d (.cx .f32 x135.Source.B.re x135.Source.B.im), .d (.cx .f32 x135.Source.C.re x135.Source.C.im), .row 1 x135.Buses.length 0 x135.Buses.length], .row 8 (x135.Buses.map eSBus), .row 3 (x136.map eSOutage)]) rfl (by simp) rfl (by repeat' first | exact trivial | refine ⟨?_, ?_⟩) ⟨rfl, trivial, rfl, trivial, rfl, trivial, rfl, trivial, rfl, trivial, rfl, trivial, rfl, trivial, rfl, trivial, rfl, trivial, trivial⟩) ?_
        refine aw_region ?_
        refine awl_val hτ rfl rfl rfl ?_
        refine awl_weak (weak_ofP [0, 1, 2] (l := [(5, .ptr 0 0), (6, .row 2 x136.length 0 x136.length), (16, .d (.int .i64 v231)), (17, .d (.int .i64 v232)), (18, .d (.int .i64 v233)), (24, .d (.int .i64 x234.1)), (25, .d (.bool x234.2)), (26, .d (.int .i64 x235.1)), (27, .d (.bool x235.2)), (190, .agg [.d (.cx .f32 x135.Source.A.re x135.Source.A.im), .d (.cx .f32 x135.Source.B.re x135.Source.B.im), .d (.cx .f32 x135.Source.C.re x135.Source.C.im), .row 1 x135.Buses.length 0 x135.Buses.length])]) (objs := [.box [.d (.cx .f32 x135.Source.A.re x135.Source.A.im), .d (.cx .f32 x135.Source.B.re x135.Source.B.im), .d (.cx .f32 x135.Source.C.re x135.Source.C.im), .row 1 x135.Buses.length 0 x135.Buses.length], .row 8 (x135.Buses.map eSBus), .row 3 (x136.map eSOutage)]) rfl (by simp) rfl (by repeat' first | exact trivial | refine ⟨?_, ?_⟩) ⟨rfl, trivial, rfl, trivial, rfl, trivial, rfl, trivial, rfl, trivial, rfl, trivial, rfl, trivial, rfl, trivial, rfl, trivial, rfl, (by repeat' first | exact trivial | refine ⟨?_, ?_⟩), trivial⟩) ?_
        refine bnd_elim h fun x236 hx236 h => ?_
        refine awl_callP hτ true [] rfl rfl rfl (enterOk func79 rfl rfl) (mapO_cons (exV_agg (mapO_cons rfl (mapO_cons rfl (mapO_cons rfl (mapO_cons (exC_view (f := eSBus) x135.Buses rfl rfl rfl) mapO_nil))))) mapO_nil) rfl (by simp) ⟨⟨trivial, trivial, trivial, (exP_view (f := eSBus) x135.Buses rfl rfl rfl)⟩, trivial⟩ (by repeat' first | exact trivial | refine ⟨?_, ?_⟩) (impl_AllCustomers_ok_fr n (SFeeder.mk x135.Source x135.Buses) hx236) ?_
        rintro r0 o0 n0 ⟨rfl, rfl, rfl⟩ -
        refine awl_val hτ rfl rfl rfl ?_
        refine awl_val hτ rfl rfl rfl ?_
        refine awl_val hτ rfl rfl rfl ?_
        refine awl_val hτ rfl rfl rfl ?_
        refine awl_val hτ rfl rfl rfl ?_
        refine awl_nil ?_
        refine aw_seq ?_
        refine aw_weak (weak_ofP [0, 1, 2] (l := [(5, .ptr 0 0), (6, .row 2 x136.length 0 x136.length), (16, .d (.int .i64 v231)), (17, .d (.int .i64 v232)), (18, .d (.int .i64 v233)), (24, .d (.int .i64 x234.1)), (25, .d (.bool x234.2)), (26, .d (.int .i64 x235.1)), (27, .d (.bool x235.2)), (28, .d (.int .i64 x236.1)), (29, .d (.bool x236.2))]) (objs := [.box [.d (.cx .f32 x135.Source.A.re x135.Source.A.im), .d (.cx .f32 x135.Source.B.re x135.Source.B.im), .d (.cx .f32 x135.Source.C.re x135.Source.C.im), .row 1 x135.Buses.length 0 x135.Buses.length], .row 8 (x135.Buses.map eSBus), .row 3 (x136.map eSOutage)]) rfl (by simp) rfl (by repeat' first | exact trivial | refine ⟨?_, ?_⟩) ⟨rfl, trivial, rfl, trivial, rfl, trivial, rfl, trivial, rfl, trivial, rfl, trivial, rfl, trivial, rfl, trivial, rfl, trivial, rfl, trivial, rfl, trivial, trivial⟩) ?_
        refine aw_region ?_
        refine awl_val hτ rfl rfl rfl ?_
        refine awl_val hτ rfl rfl rfl ?_
        refine awl_weak (weak_ofP [0, 1, 2] (l := [(5, .ptr 0 0), (6, .row 2 x136.length 0 x136.length), (16, .d (.int .i64 v231)), (17, .d (.int .i64 v232)), (18, .d (.int .i64 v233)), (24, .d (.int .i64 x234.1)), (25, .d (.bool x234.2)), (26, .d (.int .i64 x235.1)), (27, .d (.bool x235.2)), (28, .d (.int .i64 x236.1)), (29, .d (.bool x236.2)), (195, .agg [.d (.cx .f32 x135.Source.A.re x135.Source.A.im), .d (.cx .f32 x135.Source.B.re x135.Source.B.im), .d (.cx .f32 x135.Source.C.re x135.Source.C.im), .row 1 x135.Buses.length 0 x135.Buses.length]), (196, .row 2 x136.length 0 x136.length)]) (objs := [.box [.d (.cx .f32 x135.Source.A.re x135.Source.A.im), .d (.cx .f32 x135.Source.B.re x135.Source.B.im), .d (.cx .f32 x135.Source.C.re x135.Source.C.im), .row 1 x135.Buses.length 0 x135.Buses.length], .row 8 (x135.Buses.map eSBus), .row 3 (x136.map eSOutage)]) rfl (by simp) rfl (by repeat' first | exact trivial | refine ⟨?_, ?_⟩) ⟨rfl, trivial, rfl, trivial, rfl, trivial, rfl, trivial, rfl, trivial, rfl, trivial, rfl, trivial, rfl, trivial, rfl, trivial, rfl, trivial, rfl, trivial, rfl, (by repeat' first | exact trivial | refine ⟨?_, ?_⟩), rfl, trivial, trivial⟩) ?_
        refine bnd_elim h fun x237 hx237 h => ?_
        refine awl_callP hτ true [] rfl rfl rfl (enterOk func80 rfl rfl) (mapO_cons (exV_agg (mapO_cons rfl (mapO_cons rfl (mapO_cons rfl (mapO_cons (exC_view (f := eSBus) x135.Buses rfl rfl rfl) mapO_nil))))) (mapO_cons (exV_view (f := eSOutage) x136 rfl rfl rfl) mapO_nil)) rfl (by simp) ⟨⟨trivial, trivial, trivial, (exP_view (f := eSBus) x135.Buses rfl rfl rfl)⟩, (exVP_view (f := eSOutage) x136 rfl rfl rfl), trivial⟩ (by repeat' first | exact trivial | refine ⟨?_, ?_⟩) (impl_IndicesOf_ok_fr n (SFeeder.mk x135.Source x135.Buses) x136 hx237) ?_
        rintro r0 o0 n0 ⟨rfl, rfl, rfl⟩ -
        refine awl_val hτ rfl rfl rfl ?_
        refine awl_val hτ rfl rfl rfl ?_
        refine awl_val hτ rfl rfl rfl ?_
        refine awl_val hτ rfl rfl rfl ?_
        refine awl_val hτ rfl rfl rfl ?_
        refine awl_val hτ rfl rfl rfl ?_
        refine awl_val hτ rfl rfl rfl ?_
        refine awl_val hτ rfl rfl rfl ?_
        refine awl_val hτ rfl rfl rfl ?_
        refine awl_nil ?_
        refine aw_hk1 (ι := Unit) (fun _ => St.of [(5, .ptr 0 0), (6, .row 2 x136.length 0 x136.length), (16, .d (.int .i64 v231)), (17, .d (.int .i64 v232)), (18, .d (.int .i64 v233)), (30, .d (.fl .f32 x237.1)), (31, .d (.fl .f32 x237.2.1)), (32, .d (.fl .f32 x237.2.2.1))] [.box [.d (.cx .f32 x135.Source.A.re x135.Source.A.im), .d (.cx .f32 x135.Source.B.re x135.Source.B.im), .d (.cx .f32 x135.Source.C.re x135.Source.C.im), .row 1 x135.Buses.length 0 x135.Buses.length], .row 8 (x135.Buses.map eSBus), .row 3 (x136.map eSOutage)] f9.ntmps 0) (fun _ => m_laws_FnDark_j3 n x135 x136 v231 v232 v233 x237 = some r) ?_ (fun hk310 => ?_)
        · rintro ⟨⟩ h
          replace h : m_laws_FnDark_j3 n x135 x136 v231 v232 v233 x237 = some r := h
          unfold m_laws_FnDark_j3 at h
          refine aw_hk1 (ι := Unit) (fun _ => St.of [(5, .ptr 0 0), (6, .row 2 x136.length 0 x136.length)] [.box [.d (.cx .f32 x135.Source.A.re x135.Source.A.im), .d (.cx .f32 x135.Source.B.re x135.Source.B.im), .d (.cx .f32 x135.Source.C.re x135.Source.C.im), .row 1 x135.Buses.length 0 x135.Buses.length], .row 8 (x135.Buses.map eSBus), .row 3 (x136.map eSOutage)] f9.ntmps 0) (fun _ => m_laws_FnDark_j4 n x135 x136 = some r) ?_ (fun hk295 => ?_)
          · rintro ⟨⟩ h
            replace h : m_laws_FnDark_j4 n x135 x136 = some r := h
            unfold m_laws_FnDark_j4 at h
            refine aw_seq ?_
            refine aw_region ?_
            refine awl_val hτ rfl rfl rfl ?_
            refine awl_val hτ rfl rfl rfl ?_
            refine awl_weak (weak_ofP [0, 1, 2] (l := [(5, .ptr 0 0), (6, .row 2 x136.length 0 x136.length), (257, .agg [.d (.cx .f32 x135.Source.A.re x135.Source.A.im), .d (.cx .f32 x135.Source.B.re x135.Source.B.im), .d (.cx .f32 x135.Source.C.re x135.Source.C.im), .row 1 x135.Buses.length 0 x135.Buses.length]), (258, .row 2 x136.length 0 x136.length)]) (objs := [.box [.d (.cx .f32 x135.Source.A.re x135.Source.A.im), .d (.cx .f32 x135.Source.B.re x135.Source.B.im), .d (.cx .f32 x135.Source.C.re x135.Source.C.im), .row 1 x135.Buses.length 0 x135.Buses.length], .row 8 (x135.Buses.map eSBus), .row 3 (x136.map eSOutage)]) rfl (by simp) rfl (by repeat' first | exact trivial | refine ⟨?_, ?_⟩) ⟨rfl, trivial, rfl, trivial, rfl, (by repeat' first | exact trivial | refine ⟨?_, ?_⟩), rfl, trivial, trivial⟩) ?_
            refine bnd_elim h fun x253 hx253 h => ?_
            refine awl_callP hτ true [] rfl rfl rfl (enterOk func83 rfl rfl) (mapO_cons (exV_agg (mapO_cons rfl (mapO_cons rfl (mapO_cons rfl (mapO_cons (exC_view (f := eSBus) x135.Buses rfl rfl rfl) mapO_nil))))) (mapO_cons (exV_view (f := eSOutage) x136 rfl rfl rfl) mapO_nil)) rfl (by simp) ⟨⟨trivial, trivial, trivial, (exP_view (f := eSBus) x135.Buses rfl rfl rfl)⟩, (exVP_view (f := eSOutage) x136 rfl rfl rfl), trivial⟩ (by repeat' first | exact trivial | refine ⟨?_, ?_⟩) (impl_WorstOutage_ok_fr n (SFeeder.mk x135.Source x135.Buses) x136 hx253) ?_
            rintro r0 o0 n0 ⟨rfl, rfl, rfl⟩ -
            refine awl_val hτ rfl rfl rfl ?_
            refine awl_val hτ rfl rfl rfl ?_
            refine awl_val hτ rfl rfl rfl ?_
            refine awl_val hτ rfl rfl rfl ?_
            refine awl_val hτ rfl rfl rfl ?_
            refine awl_val hτ rfl rfl rfl ?_
            refine awl_val hτ rfl rfl rfl ?_
            refine awl_nil ?_
            refine aw_seq ?_
            refine aw_seq ?_
            refine aw_weak (weak_ofP [0, 1, 2] (l := [(5, .ptr 0 0), (6, .row 2 x136.length 0 x136.length), (34, .d (.int .i64 x253.1)), (35, .d (.int .i64 x253.2.1)), (36, .d (.bool x253.2.2))]) (objs := [.box [.d (.cx .f32 x135.Source.A.re x135.Source.A.im), .d (.cx .f32 x135.Source.B.re x135.Source.B.im), .d (.cx .f32 x135.Source.C.re x135.Source.C.im), .row 1 x135.Buses.length 0 x135.Buses.length], .row 8 (x135.Buses.map eSBus), .row 3 (x136.map eSOutage)]) rfl (by simp) rfl (by repeat' first | exact trivial | refine ⟨?_, ?_⟩) ⟨rfl, trivial, rfl, trivial, rfl, trivial, rfl, trivial, rfl, trivial, trivial⟩) ?_
            refine aw_region ?_
            refine awl_val hτ rfl rfl rfl ?_
            refine awl_val hτ rfl rfl rfl ?_
            refine awl_need hτ rfl rfl rfl (len_map _) ?_
            refine awl_val hτ rfl rfl rfl ?_
            refine awl_val hτ rfl rfl rfl ?_
            refine awl_nil ?_
            refine aw_cond rfl (fun hc254 => ?_) (fun hc254 => ?_)
            · have hc254 := not_t hc254
              have h := if_bf h hc254
              refine aw_seq ?_
              refine aw_region ?_
              refine awl_val hτ rfl rfl rfl ?_
              refine awl_nil ?_
              refine aw_weak (weak_ofP [] (l := [(4, .d (.bool false))]) (objs := []) rfl (by simp) rfl (by repeat' first | exact trivial | refine ⟨?_, ?_⟩) ⟨rfl, trivial, trivial⟩) ?_
              refine aw_ret ?_
              have hr := Option.some.inj h
              subst hr
              exact ret_objs (.inr rfl) [] (objs' := []) (new := []) rfl (by simp) (by simp) rfl (by repeat' first | exact trivial | refine ⟨?_, ?_⟩) rfl rfl (by repeat' first | exact trivial | refine ⟨?_, ?_⟩) (fun _ => ⟨by simp [V.flat, V.flatA, V.flatC, D.flat], flat_nil⟩) ⟨rfl, rfl, rfl⟩
            · have hc254 := not_f hc254
              have h := if_bt h hc254
              refine aw_skip ?_
              refine aw_seq ?_
              refine aw_seq ?_
              refine aw_region ?_
              refine awl_val hτ rfl rfl rfl ?_
              refine awl_need hτ rfl rfl rfl (len_map _) ?_
              refine awl_val hτ rfl rfl rfl ?_
              refine awl_nil ?_
              refine aw_block ?_
              refine aw_loop (ι := Nat × Int) (fun (m271, v262) => St.of [(5, .ptr 0 0), (6, .row 2 x136.length 0 x136.length), (34, .d (.int .i64 x253.1)), (35, .d (.int .i64 x253.2.1)), (269, .d (.int .i64 (x136.length : Int))), (270, .d (.int .i64 v262))] [.box [.d (.cx .f32 x135.Source.A.re x135.Source.A.im), .d (.cx .f32 x135.Source.B.re x135.Source.B.im), .d (.cx .f32 x135.Source.C.re x135.Source.C.im), .row 1 x135.Buses.length 0 x135.Buses.length], .row 8 (x135.Buses.map eSBus), .row 3 (x136.map eSOutage)] f9.ntmps 0) (fun (m271, v262) => m_laws_FnDark_l5 n x135 x136 x253 m271 v262 = some r) (fun x => x.1) (n, (0 : Int)) h (weak_ofP [0, 1, 2] (l := [(5, .ptr 0 0), (6, .row 2 x136.length 0 x136.length), (34, .d (.int .i64 x253.1)), (35, .d (.int .i64 x253.2.1)), (269, .d (.int .i64 (x136.length : Int))), (270, .d (.int .i64 (0 : Int)))]) (objs := [.box [.d (.cx .f32 x135.Source.A.re x135.Source.A.im), .d (.cx .f32 x135.Source.B.re x135.Source.B.im), .d (.cx .f32 x135.Source.C.re x135.Source.C.im), .row 1 x135.Buses.length 0 x135.Buses.length], .row 8 (x135.Buses.map eSBus), .row 3 (x136.map eSOutage)]) rfl (by simp) rfl (by repeat' first | exact trivial | refine ⟨?_, ?_⟩) ⟨rfl, trivial, rfl, trivial, rfl, trivial, rfl, trivial, rfl, trivial, rfl, trivial, trivial⟩) ?_
              rintro ⟨m271, v262⟩ h
              replace h : m_laws_FnDark_l5 n x135 x136 x253 m271 v262 = some r := h
              rcases m271 with _ | m271
              · rw [m_laws_FnDark_l5] at h; cases h
              rw [m_laws_FnDark_l5] at h
              refine aw_seq ?_
              refine aw_region ?_
              refine awl_val hτ rfl rfl rfl ?_
              refine awl_nil ?_
              refine aw_seq ?_
              refine aw_cond rfl (fun hc273 => ?_) (fun hc273 => ?_)
              · have h := if_t h hc273
                refine aw_skip ?_
                refine aw_hk1 (ι := Unit) (fun _ => St.of [(5, .ptr 0 0), (6, .row 2 x136.length 0 x136.length), (34, .d (.int .i64 x253.1)), (35, .d (.int .i64 x253.2.1)), (269, .d (.int .i64 (x136.length : Int))), (270, .d (.int .i64 v262))] [.box [.d (.cx .f32 x135.Source.A.re x135.Source.A.im), .d (.cx .f32 x135.Source.B.re x135.Source.B.im), .d (.cx .f32 x135.Source.C.re x135.Source.C.im), .row 1 x135.Buses.length 0 x135.Buses.length], .row 8 (x135.Buses.map eSBus), .row 3 (x136.map eSOutage)] f9.ntmps 0) (fun _ => m_laws_FnDark_j6 n (m_laws_FnDark_l5 n x135 x136 x253 m271) v262 = some r) ?_ (fun hk281 => ?_)
                · rintro ⟨⟩ h
                  replace h : m_laws_FnDark_j6 n (m_laws_FnDark_l5 n x135 x136 x253 m271) v262 = some r := h
                  unfold m_laws_FnDark_j6 at h
                  refine aw_region ?_
                  refine awl_val hτ rfl rfl rfl ?_
                  refine awl_val hτ rfl rfl rfl ?_
                  refine awl_nil ?_
                  exact ⟨(m271, (w64 (v262 + (1 : Int)))), h, Nat.lt_succ_self m271, (weak_ofP [0, 1, 2] (l := [(5, .ptr 0 0), (6, .row 2 x136.length 0 x136.length), (34, .d (.int .i64 x253.1)), (35, .d (.int .i64 x253.2.1)), (269, .d (.int .i64 (x136.length : Int))), (270, .d (.int .i64 (w64 (v262 + (1 : Int)))))]) (objs := [.box [.d (.cx .f32 x135.Source.A.re x135.Source.A.im), .d (.cx .f32 x135.Source.B.re x135.Source.B.im), .d (.cx .f32 x135.Source.C.re x135.Source.C.im), .row 1 x135.Buses.length 0 x135.Buses.length], .row 8 (x135.Buses.map eSBus), .row 3 (x136.map eSOutage)]) rfl (by simp) rfl (by repeat' first | exact trivial | refine ⟨?_, ?_⟩) ⟨rfl, trivial, rfl, trivial, rfl, trivial, rfl, trivial, rfl, trivial, rfl, trivial, trivial⟩)⟩
                · refine aw_seq ?_
                  refine aw_block ?_
                  refine aw_seq ?_
                  refine aw_region ?_
                  refine awl_val hτ rfl rfl rfl ?_
                  refine awl_val hτ rfl rfl rfl ?_
                  refine awl_nil ?_
                  refine aw_seq ?_
                  refine any_start ?_
                  refine any_val hτ [0] 0 rfl rfl rfl rfl rfl ?_
                  refine any_val hτ [] 1 rfl rfl rfl rfl rfl ?_
                  refine any_val hτ [] 2 rfl rfl rfl rfl rfl ?_
                  refine bnd_elim h fun x282 hx282 h => ?_
                  refine any_need hτ [2] 3 rfl rfl rfl rfl rfl (row_need hx282) ?_
                  refine any_elem hτ [2] 4 rfl rfl rfl rfl rfl (len_map _) (row_get hx282) rfl ?_
                  refine any_valHP hτ [0, 1, 2] 5 rfl rfl rfl rfl ⟨rfl, rfl, rfl, trivial⟩ ?_
                  refine bnd_elim h fun x283 hx283 h => ?_
                  refine any_callP hτ true [] [0, 1, 2, 3] 6 rfl rfl rfl rfl (enterOk func77 rfl rfl) (mapO_cons (exV_agg (mapO_cons rfl (mapO_cons rfl (mapO_cons rfl (mapO_cons (exC_view (f := eSBus) x135.Buses rfl rfl rfl) mapO_nil))))) (mapO_cons (exV_view (f := eSOutage) [x282] rfl rfl rfl) mapO_nil)) rfl (by simp) ⟨⟨trivial, trivial, trivial, (exP_view (f := eSBus) x135.Buses rfl rfl rfl)⟩, (exVP_view (f := eSOutage) [x282] rfl rfl rfl), trivial⟩ (by repeat' first | exact trivial | refine ⟨?_, ?_⟩) (impl_CustomerTicks_ok_fr n (SFeeder.mk x135.Source x135.Buses) [x282] hx283) ⟨rfl, rfl, rfl, rfl, trivial⟩ ?_
                  refine any_val hτ [] 7 rfl rfl rfl rfl rfl ?_
                  refine any_val hτ [] 8 rfl rfl rfl rfl rfl ?_
                  refine any_val hτ [] 9 rfl rfl rfl rfl rfl ?_
                  refine any_val hτ [] 10 rfl rfl rfl rfl rfl ?_
                  refine any_val hτ [] 11 rfl rfl rfl rfl rfl ?_
                  refine any_done mixed (by kernel_rfl) ?_
                  refine aw_hk1 (ι := Bool) (fun v289 => St.of [(5, .ptr 0 0), (6, .row 2 x136.length 0 x136.length), (34, .d (.int .i64 x253.1)), (35, .d (.int .i64 x253.2.1)), (269, .d (.int .i64 (x136.length : Int))), (270, .d (.int .i64 v262)), (299, .d (.bool v289))] [.box [.d (.cx .f32 x135.Source.A.re x135.Source.A.im), .d (.cx .f32 x135.Source.B.re x135.Source.B.im), .d (.cx .f32 x135.Source.C.re x135.Source.C.im), .row 1 x135.Buses.length 0 x135.Buses.length], .row 8 (x135.Buses.map eSBus), .row 3 (x136.map eSOutage)] f9.ntmps 0) (fun v289 => m_laws_FnDark_j7 n (m_laws_FnDark_l5 n x135 x136 x253 m271) v262 v289 = some r) ?_ (fun hk291 => ?_)
                  · rintro v289 h
                    replace h : m_laws_FnDark_j7 n (m_laws_FnDark_l5 n x135 x136 x253 m271) v262 v289 = some r := h
                    unfold m_laws_FnDark_j7 at h
                    refine aw_cond rfl (fun hc290 => ?_) (fun hc290 => ?_)
                    · have h := if_bt h hc290
                      refine aw_seq ?_
                      refine aw_region ?_
                      refine awl_val hτ rfl rfl rfl ?_
                      refine awl_nil ?_
                      refine aw_weak (weak_ofP [] (l := [(4, .d (.bool false))]) (objs := []) rfl (by simp) rfl (by repeat' first | exact trivial | refine ⟨?_, ?_⟩) ⟨rfl, trivial, trivial⟩) ?_
                      refine aw_ret ?_
                      have hr := Option.some.inj h
                      subst hr
                      exact ret_objs (.inr rfl) [] (objs' := []) (new := []) rfl (by simp) (by simp) rfl (by repeat' first | exact trivial | refine ⟨?_, ?_⟩) rfl rfl (by repeat' first | exact trivial | refine ⟨?_, ?_⟩) (fun _ => ⟨by simp [V.flat, V.flatA, V.flatC, D.flat], flat_nil⟩) ⟨rfl, rfl, rfl⟩
                    · have h := if_bf h hc290
                      refine aw_skip ?_
                      refine aw_weak (weak_ofP [0, 1, 2] (l := [(5, .ptr 0 0), (6, .row 2 x136.length 0 x136.length), (34, .d (.int .i64 x253.1)), (35, .d (.int .i64 x253.2.1)), (269, .d (.int .i64 (x136.length : Int))), (270, .d (.int .i64 v262))]) (objs := [.box [.d (.cx .f32 x135.Source.A.re x135.Source.A.im), .d (.cx .f32 x135.Source.B.re x135.Source.B.im), .d (.cx .f32 x135.Source.C.re x135.Source.C.im), .row 1 x135.Buses.length 0 x135.Buses.length], .row 8 (x135.Buses.map eSBus), .row 3 (x136.map eSOutage)]) rfl (by simp) rfl (by repeat' first | exact trivial | refine ⟨?_, ?_⟩) ⟨rfl, trivial, rfl, trivial, rfl, trivial, rfl, trivial, rfl, trivial, rfl, trivial, trivial⟩) ?_
                      exact hk281 () h
                  · refine aw_seq ?_
                    refine aw_weak (weak_ofP [0, 1, 2] (l := [(5, .ptr 0 0), (6, .row 2 x136.length 0 x136.length), (34, .d (.int .i64 x253.1)), (35, .d (.int .i64 x253.2.1)), (37, .d (.int .i64 v262)), (38, .d (.int .i64 x283.1)), (39, .d (.bool x283.2)), (269, .d (.int .i64 (x136.length : Int))), (270, .d (.int .i64 v262))]) (objs := [.box [.d (.cx .f32 x135.Source.A.re x135.Source.A.im), .d (.cx .f32 x135.Source.B.re x135.Source.B.im), .d (.cx .f32 x135.Source.C.re x135.Source.C.im), .row 1 x135.Buses.length 0 x135.Buses.length], .row 8 (x135.Buses.map eSBus), .row 3 (x136.map eSOutage)]) rfl (by simp) rfl (by repeat' first | exact trivial | refine ⟨?_, ?_⟩) ⟨rfl, trivial, rfl, trivial, rfl, trivial, rfl, trivial, rfl, trivial, rfl, trivial, rfl, trivial, rfl, trivial, rfl, trivial, trivial⟩) ?_
                    refine aw_region ?_
                    refine awl_val hτ rfl rfl rfl ?_
                    refine awl_val hτ rfl rfl rfl ?_
                    refine awl_val hτ rfl rfl rfl ?_
                    refine awl_split 285 rfl (fun hb292 => ?_) (fun hb292 => ?_)
                    · have hb292 := not_t hb292
                      have h := if_bf h hb292
                      refine awl_skip rfl rfl ?_
                      refine awl_skip rfl rfl ?_
                      refine awl_skip rfl rfl ?_
                      refine awl_val hτ rfl rfl rfl ?_
                      refine awl_val hτ rfl rfl rfl ?_
                      refine awl_skip rfl rfl ?_
                      refine awl_skip rfl rfl ?_
                      refine awl_skip rfl rfl ?_
                      refine awl_skip rfl rfl ?_
                      refine awl_weak (weak_ofP [0, 1, 2] (l := [(5, .ptr 0 0), (6, .row 2 x136.length 0 x136.length), (34, .d (.int .i64 x253.1)), (35, .d (.int .i64 x253.2.1)), (38, .d (.int .i64 x283.1)), (269, .d (.int .i64 (x136.length : Int))), (270, .d (.int .i64 v262)), (290, .d (.bool true)), (294, .und)]) (objs := [.box [.d (.cx .f32 x135.Source.A.re x135.Source.A.im), .d (.cx .f32 x135.Source.B.re x135.Source.B.im), .d (.cx .f32 x135.Source.C.re x135.Source.C.im), .row 1 x135.Buses.length 0 x135.Buses.length], .row 8 (x135.Buses.map eSBus), .row 3 (x136.map eSOutage)]) rfl (by simp) rfl (by repeat' first | exact trivial | refine ⟨?_, ?_⟩) ⟨rfl, trivial, rfl, trivial, rfl, trivial, rfl, trivial, rfl, trivial, rfl, trivial, rfl, trivial, rfl, trivial, rfl, trivial, trivial⟩) ?_
                      refine awl_skip rfl rfl ?_
                      refine awl_skip rfl rfl ?_
                      refine awl_skip rfl rfl ?_
                      refine awl_skip rfl rfl ?_
                      refine awl_val hτ rfl rfl rfl ?_
                      refine awl_nil ?_
                      refine aw_weak (weak_ofP [0, 1, 2] (l := [(5, .ptr 0 0), (6, .row 2 x136.length 0 x136.length), (34, .d (.int .i64 x253.1)), (35, .d (.int .i64 x253.2.1)), (269, .d (.int .i64 (x136.length : Int))), (270, .d (.int .i64 v262)), (299, .d (.bool true))]) (objs := [.box [.d (.cx .f32 x135.Source.A.re x135.Source.A.im), .d (.cx .f32 x135.Source.B.re x135.Source.B.im), .d (.cx .f32 x135.Source.C.re x135.Source.C.im), .row 1 x135.Buses.length 0 x135.Buses.length], .row 8 (x135.Buses.map eSBus), .row 3 (x136.map eSOutage)]) rfl (by simp) rfl (by repeat' first | exact trivial | refine ⟨?_, ?_⟩) ⟨rfl, trivial, rfl, trivial, rfl, trivial, rfl, trivial, rfl, trivial, rfl, trivial, rfl, trivial, trivial⟩) ?_
                      exact hk291 true h
                    · have hb292 := not_f hb292
                      have h := if_bt h hb292
                      refine awl_val hτ rfl rfl rfl ?_
                      refine awl_val hτ rfl rfl rfl ?_
                      refine awl_val hτ rfl rfl rfl ?_
                      refine awl_val hτ rfl rfl rfl ?_
                      refine awl_val hτ rfl rfl rfl ?_
                      refine awl_split 290 rfl (fun hb293 => ?_) (fun hb293 => ?_)
                      · have h := if_t h hb293
                        refine awl_skip rfl rfl ?_
                        refine awl_skip rfl rfl ?_
                        refine awl_skip rfl rfl ?_
                        refine awl_skip rfl rfl ?_
                        refine awl_weak (weak_ofP [0, 1, 2] (l := [(5, .ptr 0 0), (6, .row 2 x136.length 0 x136.length), (34, .d (.int .i64 x253.1)), (35, .d (.int .i64 x253.2.1)), (38, .d (.int .i64 x283.1)), (269, .d (.int .i64 (x136.length : Int))), (270, .d (.int .i64 v262)), (290, .d (.bool true)), (294, .und)]) (objs := [.box [.d (.cx .f32 x135.Source.A.re x135.Source.A.im), .d (.cx .f32 x135.Source.B.re x135.Source.B.im), .d (.cx .f32 x135.Source.C.re x135.Source.C.im), .row 1 x135.Buses.length 0 x135.Buses.length], .row 8 (x135.Buses.map eSBus), .row 3 (x136.map eSOutage)]) rfl (by simp) rfl (by repeat' first | exact trivial | refine ⟨?_, ?_⟩) ⟨rfl, trivial, rfl, trivial, rfl, trivial, rfl, trivial, rfl, trivial, rfl, trivial, rfl, trivial, rfl, trivial, rfl, trivial, trivial⟩) ?_
                        refine awl_skip rfl rfl ?_
                        refine awl_skip rfl rfl ?_
                        refine awl_skip rfl rfl ?_
                        refine awl_skip rfl rfl ?_
                        refine awl_val hτ rfl rfl rfl ?_
                        refine awl_nil ?_
                        refine aw_weak (weak_ofP [0, 1, 2] (l := [(5, .ptr 0 0), (6, .row 2 x136.length 0 x136.length), (34, .d (.int .i64 x253.1)), (35, .d (.int .i64 x253.2.1)), (269, .d (.int .i64 (x136.length : Int))), (270, .d (.int .i64 v262)), (299, .d (.bool true))]) (objs := [.box [.d (.cx .f32 x135.Source.A.re x135.Source.A.im), .d (.cx .f32 x135.Source.B.re x135.Source.B.im), .d (.cx .f32 x135.Source.C.re x135.Source.C.im), .row 1 x135.Buses.length 0 x135.Buses.length], .row 8 (x135.Buses.map eSBus), .row 3 (x136.map eSOutage)]) rfl (by simp) rfl (by repeat' first | exact trivial | refine ⟨?_, ?_⟩) ⟨rfl, trivial, rfl, trivial, rfl, trivial, rfl, trivial, rfl, trivial, rfl, trivial, rfl, trivial, trivial⟩) ?_
                        exact hk291 true h
                      · have h := if_f h hb293
                        refine awl_val hτ rfl rfl rfl ?_
                        refine awl_val hτ rfl rfl rfl ?_
                        refine awl_val hτ (v := .d (.bool (decide (v262 = x253.1)))) rfl rfl (or_ieq _ _) ?_
                        refine awl_val hτ rfl rfl rfl ?_
                        refine awl_weak (weak_ofP [0, 1, 2] (l := [(5, .ptr 0 0), (6, .row 2 x136.length 0 x136.length), (34, .d (.int .i64 x253.1)), (35, .d (.int .i64 x253.2.1)), (38, .d (.int .i64 x283.1)), (269, .d (.int .i64 (x136.length : Int))), (270, .d (.int .i64 v262)), (290, .d (.bool false)), (294, .d (.bool (decide (v262 = x253.1))))]) (objs := [.box [.d (.cx .f32 x135.Source.A.re x135.Source.A.im), .d (.cx .f32 x135.Source.B.re x135.Source.B.im), .d (.cx .f32 x135.Source.C.re x135.Source.C.im), .row 1 x135.Buses.length 0 x135.Buses.length], .row 8 (x135.Buses.map eSBus), .row 3 (x136.map eSOutage)]) rfl (by simp) rfl (by repeat' first | exact trivial | refine ⟨?_, ?_⟩) ⟨rfl, trivial, rfl, trivial, rfl, trivial, rfl, trivial, rfl, trivial, rfl, trivial, rfl, trivial, rfl, trivial, rfl, trivial, trivial⟩) ?_
                        refine awl_split 294 rfl (fun hb294 => ?_) (fun hb294 => ?_)
                        · have h := if_t h hb294
                          refine awl_val hτ rfl rfl rfl ?_
                          refine awl_val hτ rfl rfl rfl ?_
                          refine awl_val hτ (v := .d (.bool (!(decide (x283.1 = x253.2.1))))) rfl rfl (or_ine _ _) ?_
                          refine awl_val hτ rfl rfl rfl ?_
                          refine awl_val hτ rfl rfl rfl ?_
                          refine awl_nil ?_
                          refine aw_weak (weak_ofP [0, 1, 2] (l := [(5, .ptr 0 0), (6, .row 2 x136.length 0 x136.length), (34, .d (.int .i64 x253.1)), (35, .d (.int .i64 x253.2.1)), (269, .d (.int .i64 (x136.length : Int))), (270, .d (.int .i64 v262)), (299, .d (.bool (!(decide (x283.1 = x253.2.1)))))]) (objs := [.box [.d (.cx .f32 x135.Source.A.re x135.Source.A.im), .d (.cx .f32 x135.Source.B.re x135.Source.B.im), .d (.cx .f32 x135.Source.C.re x135.Source.C.im), .row 1 x135.Buses.length 0 x135.Buses.length], .row 8 (x135.Buses.map eSBus), .row 3 (x136.map eSOutage)]) rfl (by simp) rfl (by repeat' first | exact trivial | refine ⟨?_, ?_⟩) ⟨rfl, trivial, rfl, trivial, rfl, trivial, rfl, trivial, rfl, trivial, rfl, trivial, rfl, trivial, trivial⟩) ?_
                          exact hk291 (!(decide (x283.1 = x253.2.1))) h
                        · have h := if_f h hb294
                          refine awl_skip rfl rfl ?_
                          refine awl_skip rfl rfl ?_
                          refine awl_skip rfl rfl ?_
                          refine awl_val hτ rfl rfl rfl ?_
                          refine awl_val hτ rfl rfl rfl ?_
                          refine awl_nil ?_
                          refine aw_weak (weak_ofP [0, 1, 2] (l := [(5, .ptr 0 0), (6, .row 2 x136.length 0 x136.length), (34, .d (.int .i64 x253.1)), (35, .d (.int .i64 x253.2.1)), (269, .d (.int .i64 (x136.length : Int))), (270, .d (.int .i64 v262)), (299, .d (.bool false))]) (objs := [.box [.d (.cx .f32 x135.Source.A.re x135.Source.A.im), .d (.cx .f32 x135.Source.B.re x135.Source.B.im), .d (.cx .f32 x135.Source.C.re x135.Source.C.im), .row 1 x135.Buses.length 0 x135.Buses.length], .row 8 (x135.Buses.map eSBus), .row 3 (x136.map eSOutage)]) rfl (by simp) rfl (by repeat' first | exact trivial | refine ⟨?_, ?_⟩) ⟨rfl, trivial, rfl, trivial, rfl, trivial, rfl, trivial, rfl, trivial, rfl, trivial, rfl, trivial, trivial⟩) ?_
                          exact hk291 false h
              · have h := if_f h hc273
                refine aw_exit ?_
                refine aw_seq ?_
                refine aw_region ?_
                refine awl_val hτ rfl rfl rfl ?_
                refine awl_nil ?_
                refine aw_weak (weak_ofP [] (l := [(4, .d (.bool true))]) (objs := []) rfl (by simp) rfl (by repeat' first | exact trivial | refine ⟨?_, ?_⟩) ⟨rfl, trivial, trivial⟩) ?_
                refine aw_ret ?_
                have hr := Option.some.inj h
                subst hr
                exact ret_objs (.inr rfl) [] (objs' := []) (new := []) rfl (by simp) (by simp) rfl (by repeat' first | exact trivial | refine ⟨?_, ?_⟩) rfl rfl (by repeat' first | exact trivial | refine ⟨?_, ?_⟩) (fun _ => ⟨by simp [V.flat, V.flatA, V.flatC, D.flat], flat_nil⟩) ⟨rfl, rfl, rfl⟩
          · refine aw_seq ?_
            refine aw_hk1 (ι := Bool) (fun v302 => St.of [(5, .ptr 0 0), (6, .row 2 x136.length 0 x136.length), (255, .d (.bool v302))] [.box [.d (.cx .f32 x135.Source.A.re x135.Source.A.im), .d (.cx .f32 x135.Source.B.re x135.Source.B.im), .d (.cx .f32 x135.Source.C.re x135.Source.C.im), .row 1 x135.Buses.length 0 x135.Buses.length], .row 8 (x135.Buses.map eSBus), .row 3 (x136.map eSOutage)] f9.ntmps 0) (fun v302 => m_laws_FnDark_j8 n x135 x136 v302 = some r) ?_ (fun hk304 => ?_)
            · rintro v302 h
              replace h : m_laws_FnDark_j8 n x135 x136 v302 = some r := h
              unfold m_laws_FnDark_j8 at h
              refine aw_cond rfl (fun hc303 => ?_) (fun hc303 => ?_)
              · have h := if_bt h hc303
                refine aw_seq ?_
                refine aw_region ?_
                refine awl_val hτ rfl rfl rfl ?_
                refine awl_nil ?_
                refine aw_weak (weak_ofP [] (l := [(4, .d (.bool false))]) (objs := []) rfl (by simp) rfl (by repeat' first | exact trivial | refine ⟨?_, ?_⟩) ⟨rfl, trivial, trivial⟩) ?_
                refine aw_ret ?_
                have hr := Option.some.inj h
                subst hr
                exact ret_objs (.inr rfl) [] (objs' := []) (new := []) rfl (by simp) (by simp) rfl (by repeat' first | exact trivial | refine ⟨?_, ?_⟩) rfl rfl (by repeat' first | exact trivial | refine ⟨?_, ?_⟩) (fun _ => ⟨by simp [V.flat, V.flatA, V.flatC, D.flat], flat_nil⟩) ⟨rfl, rfl, rfl⟩
              · have h := if_bf h hc303
                refine aw_skip ?_
                refine aw_weak (weak_ofP [0, 1, 2] (l := [(5, .ptr 0 0), (6, .row 2 x136.length 0 x136.length)]) (objs := [.box [.d (.cx .f32 x135.Source.A.re x135.Source.A.im), .d (.cx .f32 x135.Source.B.re x135.Source.B.im), .d (.cx .f32 x135.Source.C.re x135.Source.C.im), .row 1 x135.Buses.length 0 x135.Buses.length], .row 8 (x135.Buses.map eSBus), .row 3 (x136.map eSOutage)]) rfl (by simp) rfl (by repeat' first | exact trivial | refine ⟨?_, ?_⟩) ⟨rfl, trivial, rfl, trivial, trivial⟩) ?_
                exact hk295 () h
            · refine aw_seq ?_
              refine aw_region ?_
              refine awl_val hτ rfl rfl rfl ?_
              refine awl_val hτ rfl rfl rfl ?_
              refine awl_val hτ rfl rfl rfl ?_
              refine bnd_elim h fun x305 hx305 h => ?_
              refine awl_callP hτ false [] rfl rfl rfl (enterOk func82 rfl rfl) rfl rfl (by simp) ⟨trivial, trivial, trivial⟩ (by repeat' first | exact trivial | refine ⟨?_, ?_⟩) (laws_b10Share_ok n v231 v233 hx305) ?_
              rintro r0 o0 n0 ⟨rfl, rfl, rfl⟩ -
              refine awl_val hτ rfl rfl rfl ?_
              refine awl_val hτ rfl rfl rfl ?_
              refine awl_split 242 rfl (fun hb306 => ?_) (fun hb306 => ?_)
              · have h := if_bt h hb306
                refine awl_skip rfl rfl ?_
                refine awl_skip rfl rfl ?_
                refine awl_skip rfl rfl ?_
                refine awl_skip rfl rfl ?_
                refine awl_skip rfl rfl ?_
                refine awl_val hτ rfl rfl rfl ?_
                refine awl_weak (weak_ofP [0, 1, 2] (l := [(5, .ptr 0 0), (6, .row 2 x136.length 0 x136.length), (16, .d (.int .i64 v231)), (17, .d (.int .i64 v232)), (32, .d (.fl .f32 x237.2.2.1)), (248, .d (.bool true))]) (objs := [.box [.d (.cx .f32 x135.Source.A.re x135.Source.A.im), .d (.cx .f32 x135.Source.B.re x135.Source.B.im), .d (.cx .f32 x135.Source.C.re x135.Source.C.im), .row 1 x135.Buses.length 0 x135.Buses.length], .row 8 (x135.Buses.map eSBus), .row 3 (x136.map eSOutage)]) rfl (by simp) rfl (by repeat' first | exact trivial | refine ⟨?_, ?_⟩) ⟨rfl, trivial, rfl, trivial, rfl, trivial, rfl, trivial, rfl, trivial, rfl, trivial, trivial⟩) ?_
                refine awl_val hτ rfl rfl rfl ?_
                refine awl_skip rfl rfl ?_
                refine awl_skip rfl rfl ?_
                refine awl_skip rfl rfl ?_
                refine awl_skip rfl rfl ?_
                refine awl_skip rfl rfl ?_
                refine awl_val hτ rfl rfl rfl ?_
                refine awl_nil ?_
                refine aw_weak (weak_ofP [0, 1, 2] (l := [(5, .ptr 0 0), (6, .row 2 x136.length 0 x136.length), (255, .d (.bool true))]) (objs := [.box [.d (.cx .f32 x135.Source.A.re x135.Source.A.im), .d (.cx .f32 x135.Source.B.re x135.Source.B.im), .d (.cx .f32 x135.Source.C.re x135.Source.C.im), .row 1 x135.Buses.length 0 x135.Buses.length], .row 8 (x135.Buses.map eSBus), .row 3 (x136.map eSOutage)]) rfl (by simp) rfl (by repeat' first | exact trivial | refine ⟨?_, ?_⟩) ⟨rfl, trivial, rfl, trivial, rfl, trivial, trivial⟩) ?_
                exact hk304 true h
              · have h := if_bf h hb306
                refine awl_val hτ rfl rfl rfl ?_
                refine awl_val hτ rfl rfl rfl ?_
                refine awl_val hτ rfl rfl rfl ?_
                refine bnd_elim h fun x307 hx307 h => ?_
                refine awl_callP hτ false [] rfl rfl rfl (enterOk func82 rfl rfl) rfl rfl (by simp) ⟨trivial, trivial, trivial⟩ (by repeat' first | exact trivial | refine ⟨?_, ?_⟩) (laws_b10Share_ok n v232 v233 hx307) ?_
                rintro r0 o0 n0 ⟨rfl, rfl, rfl⟩ -
                refine awl_val hτ rfl rfl rfl ?_
                refine awl_val hτ rfl rfl rfl ?_
                refine awl_weak (weak_ofP [0, 1, 2] (l := [(5, .ptr 0 0), (6, .row 2 x136.length 0 x136.length), (16, .d (.int .i64 v231)), (17, .d (.int .i64 v232)), (32, .d (.fl .f32 x237.2.2.1)), (248, .d (.bool (fcmp .neq .f32 x237.2.1 x307)))]) (objs := [.box [.d (.cx .f32 x135.Source.A.re x135.Source.A.im), .d (.cx .f32 x135.Source.B.re x135.Source.B.im), .d (.cx .f32 x135.Source.C.re x135.Source.C.im), .row 1 x135.Buses.length 0 x135.Buses.length], .row 8 (x135.Buses.map eSBus), .row 3 (x136.map eSOutage)]) rfl (by simp) rfl (by repeat' first | exact trivial | refine ⟨?_, ?_⟩) ⟨rfl, trivial, rfl, trivial, rfl, trivial, rfl, trivial, rfl, trivial, rfl, trivial, trivial⟩) ?_
                refine awl_val hτ rfl rfl rfl ?_
                refine awl_split 249 rfl (fun hb308 => ?_) (fun hb308 => ?_)
                · have h := if_bt h hb308
                  refine awl_skip rfl rfl ?_
                  refine awl_skip rfl rfl ?_
                  refine awl_skip rfl rfl ?_
                  refine awl_skip rfl rfl ?_
                  refine awl_skip rfl rfl ?_
                  refine awl_val hτ rfl rfl rfl ?_
                  refine awl_nil ?_
                  refine aw_weak (weak_ofP [0, 1, 2] (l := [(5, .ptr 0 0), (6, .row 2 x136.length 0 x136.length), (255, .d (.bool true))]) (objs := [.box [.d (.cx .f32 x135.Source.A.re x135.Source.A.im), .d (.cx .f32 x135.Source.B.re x135.Source.B.im), .d (.cx .f32 x135.Source.C.re x135.Source.C.im), .row 1 x135.Buses.length 0 x135.Buses.length], .row 8 (x135.Buses.map eSBus), .row 3 (x136.map eSOutage)]) rfl (by simp) rfl (by repeat' first | exact trivial | refine ⟨?_, ?_⟩) ⟨rfl, trivial, rfl, trivial, rfl, trivial, trivial⟩) ?_
                  exact hk304 true h
                · have h := if_bf h hb308
                  refine awl_val hτ rfl rfl rfl ?_
                  refine awl_val hτ rfl rfl rfl ?_
                  refine awl_val hτ rfl rfl rfl ?_
                  refine bnd_elim h fun x309 hx309 h => ?_
                  refine awl_callP hτ false [] rfl rfl rfl (enterOk func82 rfl rfl) rfl rfl (by simp) ⟨trivial, trivial, trivial⟩ (by repeat' first | exact trivial | refine ⟨?_, ?_⟩) (laws_b10Share_ok n v231 v232 hx309) ?_
                  rintro r0 o0 n0 ⟨rfl, rfl, rfl⟩ -
                  refine awl_val hτ rfl rfl rfl ?_
                  refine awl_val hτ rfl rfl rfl ?_
                  refine awl_nil ?_
                  refine aw_weak (weak_ofP [0, 1, 2] (l := [(5, .ptr 0 0), (6, .row 2 x136.length 0 x136.length), (255, .d (.bool (fcmp .neq .f32 x237.2.2.1 x309)))]) (objs := [.box [.d (.cx .f32 x135.Source.A.re x135.Source.A.im), .d (.cx .f32 x135.Source.B.re x135.Source.B.im), .d (.cx .f32 x135.Source.C.re x135.Source.C.im), .row 1 x135.Buses.length 0 x135.Buses.length], .row 8 (x135.Buses.map eSBus), .row 3 (x136.map eSOutage)]) rfl (by simp) rfl (by repeat' first | exact trivial | refine ⟨?_, ?_⟩) ⟨rfl, trivial, rfl, trivial, rfl, trivial, trivial⟩) ?_
                  exact hk304 (fcmp .neq .f32 x237.2.2.1 x309) h
        · refine aw_seq ?_
          refine aw_hk1 (ι := Bool) (fun v320 => St.of [(5, .ptr 0 0), (6, .row 2 x136.length 0 x136.length), (16, .d (.int .i64 v231)), (17, .d (.int .i64 v232)), (18, .d (.int .i64 v233)), (30, .d (.fl .f32 x237.1)), (31, .d (.fl .f32 x237.2.1)), (32, .d (.fl .f32 x237.2.2.1)), (236, .d (.bool v320))] [.box [.d (.cx .f32 x135.Source.A.re x135.Source.A.im), .d (.cx .f32 x135.Source.B.re x135.Source.B.im), .d (.cx .f32 x135.Source.C.re x135.Source.C.im), .row 1 x135.Buses.length 0 x135.Buses.length], .row 8 (x135.Buses.map eSBus), .row 3 (x136.map eSOutage)] f9.ntmps 0) (fun v320 => m_laws_FnDark_j9 n x135 x136 v231 v232 v233 x237 v320 = some r) ?_ (fun hk322 => ?_)
          · rintro v320 h
            replace h : m_laws_FnDark_j9 n x135 x136 v231 v232 v233 x237 v320 = some r := h
            unfold m_laws_FnDark_j9 at h
            refine aw_cond rfl (fun hc321 => ?_) (fun hc321 => ?_)
            · have h := if_bt h hc321
              refine aw_seq ?_
              refine aw_region ?_
              refine awl_val hτ rfl rfl rfl ?_
              refine awl_nil ?_
              refine aw_weak (weak_ofP [] (l := [(4, .d (.bool false))]) (objs := []) rfl (by simp) rfl (by repeat' first | exact trivial | refine ⟨?_, ?_⟩) ⟨rfl, trivial, trivial⟩) ?_
              refine aw_ret ?_
              have hr := Option.some.inj h
              subst hr
              exact ret_objs (.inr rfl) [] (objs' := []) (new := []) rfl (by simp) (by simp) rfl (by repeat' first | exact trivial | refine ⟨?_, ?_⟩) rfl rfl (by repeat' first | exact trivial | refine ⟨?_, ?_⟩) (fun _ => ⟨by simp [V.flat, V.flatA, V.flatC, D.flat], flat_nil⟩) ⟨rfl, rfl, rfl⟩
            · have h := if_bf h hc321
              refine aw_skip ?_
              refine aw_weak (weak_ofP [0, 1, 2] (l := [(5, .ptr 0 0), (6, .row 2 x136.length 0 x136.length), (16, .d (.int .i64 v231)), (17, .d (.int .i64 v232)), (18, .d (.int .i64 v233)), (30, .d (.fl .f32 x237.1)), (31, .d (.fl .f32 x237.2.1)), (32, .d (.fl .f32 x237.2.2.1))]) (objs := [.box [.d (.cx .f32 x135.Source.A.re x135.Source.A.im), .d (.cx .f32 x135.Source.B.re x135.Source.B.im), .d (.cx .f32 x135.Source.C.re x135.Source.C.im), .row 1 x135.Buses.length 0 x135.Buses.length], .row 8 (x135.Buses.map eSBus), .row 3 (x136.map eSOutage)]) rfl (by simp) rfl (by repeat' first | exact trivial | refine ⟨?_, ?_⟩) ⟨rfl, trivial, rfl, trivial, rfl, trivial, rfl, trivial, rfl, trivial, rfl, trivial, rfl, trivial, rfl, trivial, trivial⟩) ?_
              exact hk310 () h
          · refine aw_seq ?_
            refine aw_weak (weak_ofP [0, 1, 2] (l := [(5, .ptr 0 0), (6, .row 2 x136.length 0 x136.length), (16, .d (.int .i64 v231)), (17, .d (.int .i64 v232)), (18, .d (.int .i64 v233)), (24, .d (.int .i64 x234.1)), (25, .d (.bool x234.2)), (26, .d (.int .i64 x235.1)), (27, .d (.bool x235.2)), (28, .d (.int .i64 x236.1)), (29, .d (.bool x236.2)), (30, .d (.fl .f32 x237.1)), (31, .d (.fl .f32 x237.2.1)), (32, .d (.fl .f32 x237.2.2.1)), (33, .d (.bool x237.2.2.2))]) (objs := [.box [.d (.cx .f32 x135.Source.A.re x135.Source.A.im), .d (.cx .f32 x135.Source.B.re x135.Source.B.im), .d (.cx .f32 x135.Source.C.re x135.Source.C.im), .row 1 x135.Buses.length 0 x135.Buses.length], .row 8 (x135.Buses.map eSBus), .row 3 (x136.map eSOutage)]) rfl (by simp) rfl (by repeat' first | exact trivial | refine ⟨?_, ?_⟩) ⟨rfl, trivial, rfl, trivial, rfl, trivial, rfl, trivial, rfl, trivial, rfl, trivial, rfl, trivial, rfl, trivial, rfl, trivial, rfl, trivial, rfl, trivial, rfl, trivial, rfl, trivial, rfl, trivial, rfl, trivial, trivial⟩) ?_
            refine aw_region ?_
            refine awl_val hτ rfl rfl rfl ?_
            refine awl_val hτ rfl rfl rfl ?_
            refine awl_val hτ rfl rfl rfl ?_
            refine awl_split 204 rfl (fun hb323 => ?_) (fun hb323 => ?_)
            · have hb323 := not_t hb323
              have h := if_bf h hb323
              refine awl_skip rfl rfl ?_
              refine awl_skip rfl rfl ?_
              refine awl_val hτ rfl rfl rfl ?_
              refine awl_val hτ rfl rfl rfl ?_
              refine awl_skip rfl rfl ?_
              refine awl_skip rfl rfl ?_
              refine awl_val hτ rfl rfl rfl ?_
              refine awl_val hτ rfl rfl rfl ?_
              refine awl_skip rfl rfl ?_
              refine awl_weak (weak_ofP [0, 1, 2] (l := [(5, .ptr 0 0), (6, .row 2 x136.length 0 x136.length), (16, .d (.int .i64 v231)), (17, .d (.int .i64 v232)), (18, .d (.int .i64 v233)), (24, .d (.int .i64 x234.1)), (26, .d (.int .i64 x235.1)), (28, .d (.int .i64 x236.1)), (30, .d (.fl .f32 x237.1)), (31, .d (.fl .f32 x237.2.1)), (32, .d (.fl .f32 x237.2.2.1)), (212, .d (.bool true)), (213, .und)]) (objs := [.box [.d (.cx .f32 x135.Source.A.re x135.Source.A.im), .d (.cx .f32 x135.Source.B.re x135.Source.B.im), .d (.cx .f32 x135.Source.C.re x135.Source.C.im), .row 1 x135.Buses.length 0 x135.Buses.length], .row 8 (x135.Buses.map eSBus), .row 3 (x136.map eSOutage)]) rfl (by simp) rfl (by repeat' first | exact trivial | refine ⟨?_, ?_⟩) ⟨rfl, trivial, rfl, trivial, rfl, trivial, rfl, trivial, rfl, trivial, rfl, trivial, rfl, trivial, rfl, trivial, rfl, trivial, rfl, trivial, rfl, trivial, rfl, trivial, rfl, trivial, trivial⟩) ?_
              refine awl_skip rfl rfl ?_
              refine awl_val hτ rfl rfl rfl ?_
              refine awl_val hτ rfl rfl rfl ?_
              refine awl_skip rfl rfl ?_
              refine awl_skip rfl rfl ?_
              refine awl_skip rfl rfl ?_
              refine awl_skip rfl rfl ?_
              refine awl_val hτ rfl rfl rfl ?_
              refine awl_val hτ rfl rfl rfl ?_
              refine awl_skip rfl rfl ?_
              refine awl_skip rfl rfl ?_
              refine awl_skip rfl rfl ?_
              refine awl_weak (weak_ofP [0, 1, 2] (l := [(5, .ptr 0 0), (6, .row 2 x136.length 0 x136.length), (16, .d (.int .i64 v231)), (17, .d (.int .i64 v232)), (18, .d (.int .i64 v233)), (26, .d (.int .i64 x235.1)), (28, .d (.int .i64 x236.1)), (30, .d (.fl .f32 x237.1)), (31, .d (.fl .f32 x237.2.1)), (32, .d (.fl .f32 x237.2.2.1)), (222, .d (.bool true)), (225, .und)]) (objs := [.box [.d (.cx .f32 x135.Source.A.re x135.Source.A.im), .d (.cx .f32 x135.Source.B.re x135.Source.B.im), .d (.cx .f32 x135.Source.C.re x135.Source.C.im), .row 1 x135.Buses.length 0 x135.Buses.length], .row 8 (x135.Buses.map eSBus), .row 3 (x136.map eSOutage)]) rfl (by simp) rfl (by repeat' first | exact trivial | refine ⟨?_, ?_⟩) ⟨rfl, trivial, rfl, trivial, rfl, trivial, rfl, trivial, rfl, trivial, rfl, trivial, rfl, trivial, rfl, trivial, rfl, trivial, rfl, trivial, rfl, trivial, rfl, trivial, trivial⟩) ?_
              refine awl_val hτ rfl rfl rfl ?_
              refine awl_val hτ rfl rfl rfl ?_
              refine awl_skip rfl rfl ?_
              refine awl_skip rfl rfl ?_
              refine awl_skip rfl rfl ?_
              refine awl_val hτ rfl rfl rfl ?_
              refine awl_val hτ rfl rfl rfl ?_
              refine awl_skip rfl rfl ?_
              refine awl_skip rfl rfl ?_
              refine awl_skip rfl rfl ?_
              refine awl_val hτ rfl rfl rfl ?_
              refine awl_nil ?_
              refine aw_weak (weak_ofP [0, 1, 2] (l := [(5, .ptr 0 0), (6, .row 2 x136.length 0 x136.length), (16, .d (.int .i64 v231)), (17, .d (.int .i64 v232)), (18, .d (.int .i64 v233)), (30, .d (.fl .f32 x237.1)), (31, .d (.fl .f32 x237.2.1)), (32, .d (.fl .f32 x237.2.2.1)), (236, .d (.bool true))]) (objs := [.box [.d (.cx .f32 x135.Source.A.re x135.Source.A.im), .d (.cx .f32 x135.Source.B.re x135.Source.B.im), .d (.cx .f32 x135.Source.C.re x135.Source.C.im), .row 1 x135.Buses.length 0 x135.Buses.length], .row 8 (x135.Buses.map eSBus), .row 3 (x136.map eSOutage)]) rfl (by simp) rfl (by repeat' first | exact trivial | refine ⟨?_, ?_⟩) ⟨rfl, trivial, rfl, trivial, rfl, trivial, rfl, trivial, rfl, trivial, rfl, trivial, rfl, trivial, rfl, trivial, rfl, trivial, trivial⟩) ?_
              exact hk322 true h
            · have hb323 := not_f hb323
              have h := if_bt h hb323
              refine awl_val hτ rfl rfl rfl ?_
              refine awl_val hτ rfl rfl rfl ?_
              refine awl_val hτ rfl rfl rfl ?_
              refine awl_val hτ rfl rfl rfl ?_
              refine awl_split 208 rfl (fun hb324 => ?_) (fun hb324 => ?_)
              · have hb324 := not_t hb324
                have h := if_bf h hb324
                refine awl_skip rfl rfl ?_
                refine awl_skip rfl rfl ?_
                refine awl_val hτ rfl rfl rfl ?_
                refine awl_val hτ rfl rfl rfl ?_
                refine awl_skip rfl rfl ?_
                refine awl_weak (weak_ofP [0, 1, 2] (l := [(5, .ptr 0 0), (6, .row 2 x136.length 0 x136.length), (16, .d (.int .i64 v231)), (17, .d (.int .i64 v232)), (18, .d (.int .i64 v233)), (24, .d (.int .i64 x234.1)), (26, .d (.int .i64 x235.1)), (28, .d (.int .i64 x236.1)), (30, .d (.fl .f32 x237.1)), (31, .d (.fl .f32 x237.2.1)), (32, .d (.fl .f32 x237.2.2.1)), (212, .d (.bool true)), (213, .und)]) (objs := [.box [.d (.cx .f32 x135.Source.A.re x135.Source.A.im), .d (.cx .f32 x135.Source.B.re x135.Source.B.im), .d (.cx .f32 x135.Source.C.re x135.Source.C.im), .row 1 x135.Buses.length 0 x135.Buses.length], .row 8 (x135.Buses.map eSBus), .row 3 (x136.map eSOutage)]) rfl (by simp) rfl (by repeat' first | exact trivial | refine ⟨?_, ?_⟩) ⟨rfl, trivial, rfl, trivial, rfl, trivial, rfl, trivial, rfl, trivial, rfl, trivial, rfl, trivial, rfl, trivial, rfl, trivial, rfl, trivial, rfl, trivial, rfl, trivial, rfl, trivial, trivial⟩) ?_
                refine awl_skip rfl rfl ?_
                refine awl_val hτ rfl rfl rfl ?_
                refine awl_val hτ rfl rfl rfl ?_
                refine awl_skip rfl rfl ?_
                refine awl_skip rfl rfl ?_
                refine awl_skip rfl rfl ?_
                refine awl_skip rfl rfl ?_
                refine awl_val hτ rfl rfl rfl ?_
                refine awl_val hτ rfl rfl rfl ?_
                refine awl_skip rfl rfl ?_
                refine awl_skip rfl rfl ?_
                refine awl_skip rfl rfl ?_
                refine awl_weak (weak_ofP [0, 1, 2] (l := [(5, .ptr 0 0), (6, .row 2 x136.length 0 x136.length), (16, .d (.int .i64 v231)), (17, .d (.int .i64 v232)), (18, .d (.int .i64 v233)), (26, .d (.int .i64 x235.1)), (28, .d (.int .i64 x236.1)), (30, .d (.fl .f32 x237.1)), (31, .d (.fl .f32 x237.2.1)), (32, .d (.fl .f32 x237.2.2.1)), (222, .d (.bool true)), (225, .und)]) (objs := [.box [.d (.cx .f32 x135.Source.A.re x135.Source.A.im), .d (.cx .f32 x135.Source.B.re x135.Source.B.im), .d (.cx .f32 x135.Source.C.re x135.Source.C.im), .row 1 x135.Buses.length 0 x135.Buses.length], .row 8 (x135.Buses.map eSBus), .row 3 (x136.map eSOutage)]) rfl (by simp) rfl (by repeat' first | exact trivial | refine ⟨?_, ?_⟩) ⟨rfl, trivial, rfl, trivial, rfl, trivial, rfl, trivial, rfl, trivial, rfl, trivial, rfl, trivial, rfl, trivial, rfl, trivial, rfl, trivial, rfl, trivial, rfl, trivial, trivial⟩) ?_
                refine awl_val hτ rfl rfl rfl ?_
                refine awl_val hτ rfl rfl rfl ?_
                refine awl_skip rfl rfl ?_
                refine awl_skip rfl rfl ?_
                refine awl_skip rfl rfl ?_
                refine awl_val hτ rfl rfl rfl ?_
                refine awl_val hτ rfl rfl rfl ?_
                refine awl_skip rfl rfl ?_
                refine awl_skip rfl rfl ?_
                refine awl_skip rfl rfl ?_
                refine awl_val hτ rfl rfl rfl ?_
                refine awl_nil ?_
                refine aw_weak (weak_ofP [0, 1, 2] (l := [(5, .ptr 0 0), (6, .row 2 x136.length 0 x136.length), (16, .d (.int .i64 v231)), (17, .d (.int .i64 v232)), (18, .d (.int .i64 v233)), (30, .d (.fl .f32 x237.1)), (31, .d (.fl .f32 x237.2.1)), (32, .d (.fl .f32 x237.2.2.1)), (236, .d (.bool true))]) (objs := [.box [.d (.cx .f32 x135.Source.A.re x135.Source.A.im), .d (.cx .f32 x135.Source.B.re x135.Source.B.im), .d (.cx .f32 x135.Source.C.re x135.Source.C.im), .row 1 x135.Buses.length 0 x135.Buses.length], .row 8 (x135.Buses.map eSBus), .row 3 (x136.map eSOutage)]) rfl (by simp) rfl (by repeat' first | exact trivial | refine ⟨?_, ?_⟩) ⟨rfl, trivial, rfl, trivial, rfl, trivial, rfl, trivial, rfl, trivial, rfl, trivial, rfl, trivial, rfl, trivial, rfl, trivial, trivial⟩) ?_
                exact hk322 true h
              · have hb324 := not_f hb324
                have h := if_bt h hb324
                refine awl_val hτ rfl rfl rfl ?_
                refine awl_val hτ rfl rfl rfl ?_
                refine awl_val hτ rfl rfl rfl ?_
                refine awl_val hτ rfl rfl rfl ?_
                refine awl_split 212 rfl (fun hb325 => ?_) (fun hb325 => ?_)
                · have hb325 := not_t hb325
                  have h := if_bf h hb325
                  refine awl_skip rfl rfl ?_
                  refine awl_weak (weak_ofP [0, 1, 2] (l := [(5, .ptr 0 0), (6, .row 2 x136.length 0 x136.length), (16, .d (.int .i64 v231)), (17, .d (.int .i64 v232)), (18, .d (.int .i64 v233)), (24, .d (.int .i64 x234.1)), (26, .d (.int .i64 x235.1)), (28, .d (.int .i64 x236.1)), (30, .d (.fl .f32 x237.1)), (31, .d (.fl .f32 x237.2.1)), (32, .d (.fl .f32 x237.2.2.1)), (212, .d (.bool true)), (213, .und)]) (objs := [.box [.d (.cx .f32 x135.Source.A.re x135.Source.A.im), .d (.cx .f32 x135.Source.B.re x135.Source.B.im), .d (.cx .f32 x135.Source.C.re x135.Source.C.im), .row 1 x135.Buses.length 0 x135.Buses.length], .row 8 (x135.Buses.map eSBus), .row 3 (x136.map eSOutage)]) rfl (by simp) rfl (by repeat' first | exact trivial | refine ⟨?_, ?_⟩) ⟨rfl, trivial, rfl, trivial, rfl, trivial, rfl, trivial, rfl, trivial, rfl, trivial, rfl, trivial, rfl, trivial, rfl, trivial, rfl, trivial, rfl, trivial, rfl, trivial, rfl, trivial, trivial⟩) ?_
                  refine awl_skip rfl rfl ?_
                  refine awl_val hτ rfl rfl rfl ?_
                  refine awl_val hτ rfl rfl rfl ?_
                  refine awl_skip rfl rfl ?_
                  refine awl_skip rfl rfl ?_
                  refine awl_skip rfl rfl ?_
                  refine awl_skip rfl rfl ?_
                  refine awl_val hτ rfl rfl rfl ?_
                  refine awl_val hτ rfl rfl rfl ?_
                  refine awl_skip rfl rfl ?_
                  refine awl_skip rfl rfl ?_
                  refine awl_skip rfl rfl ?_
                  refine awl_weak (weak_ofP [0, 1, 2] (l := [(5, .ptr 0 0), (6, .row 2 x136.length 0 x136.length), (16, .d (.int .i64 v231)), (17, .d (.int .i64 v232)), (18, .d (.int .i64 v233)), (26, .d (.int .i64 x235.1)), (28, .d (.int .i64 x236.1)), (30, .d (.fl .f32 x237.1)), (31, .d (.fl .f32 x237.2.1)), (32, .d (.fl .f32 x237.2.2.1)), (222, .d (.bool true)), (225, .und)]) (objs := [.box [.d (.cx .f32 x135.Source.A.re x135.Source.A.im), .d (.cx .f32 x135.Source.B.re x135.Source.B.im), .d (.cx .f32 x135.Source.C.re x135.Source.C.im), .row 1 x135.Buses.length 0 x135.Buses.length], .row 8 (x135.Buses.map eSBus), .row 3 (x136.map eSOutage)]) rfl (by simp) rfl (by repeat' first | exact trivial | refine ⟨?_, ?_⟩) ⟨rfl, trivial, rfl, trivial, rfl, trivial, rfl, trivial, rfl, trivial, rfl, trivial, rfl, trivial, rfl, trivial, rfl, trivial, rfl, trivial, rfl, trivial, rfl, trivial, trivial⟩) ?_
                  refine awl_val hτ rfl rfl rfl ?_
                  refine awl_val hτ rfl rfl rfl ?_
                  refine awl_skip rfl rfl ?_
                  refine awl_skip rfl rfl ?_
                  refine awl_skip rfl rfl ?_
                  refine awl_val hτ rfl rfl rfl ?_
                  refine awl_val hτ rfl rfl rfl ?_
                  refine awl_skip rfl rfl ?_
                  refine awl_skip rfl rfl ?_
                  refine awl_skip rfl rfl ?_
                  refine awl_val hτ rfl rfl rfl ?_
                  refine awl_nil ?_
                  refine aw_weak (weak_ofP [0, 1, 2] (l := [(5, .ptr 0 0), (6, .row 2 x136.length 0 x136.length), (16, .d (.int .i64 v231)), (17, .d (.int .i64 v232)), (18, .d (.int .i64 v233)), (30, .d (.fl .f32 x237.1)), (31, .d (.fl .f32 x237.2.1)), (32, .d (.fl .f32 x237.2.2.1)), (236, .d (.bool true))]) (objs := [.box [.d (.cx .f32 x135.Source.A.re x135.Source.A.im), .d (.cx .f32 x135.Source.B.re x135.Source.B.im), .d (.cx .f32 x135.Source.C.re x135.Source.C.im), .row 1 x135.Buses.length 0 x135.Buses.length], .row 8 (x135.Buses.map eSBus), .row 3 (x136.map eSOutage)]) rfl (by simp) rfl (by repeat' first | exact trivial | refine ⟨?_, ?_⟩) ⟨rfl, trivial, rfl, trivial, rfl, trivial, rfl, trivial, rfl, trivial, rfl, trivial, rfl, trivial, rfl, trivial, rfl, trivial, trivial⟩) ?_
                  exact hk322 true h
                · have hb325 := not_f hb325
                  have h := if_bt h hb325
                  refine awl_val hτ rfl rfl rfl ?_
                  refine awl_weak (weak_ofP [0, 1, 2] (l := [(5, .ptr 0 0), (6, .row 2 x136.length 0 x136.length), (16, .d (.int .i64 v231)), (17, .d (.int .i64 v232)), (18, .d (.int .i64 v233)), (24, .d (.int .i64 x234.1)), (26, .d (.int .i64 x235.1)), (28, .d (.int .i64 x236.1)), (30, .d (.fl .f32 x237.1)), (31, .d (.fl .f32 x237.2.1)), (32, .d (.fl .f32 x237.2.2.1)), (212, .d (.bool false)), (213, .d (.bool x237.2.2.2))]) (objs := [.box [.d (.cx .f32 x135.Source.A.re x135.Source.A.im), .d (.cx .f32 x135.Source.B.re x135.Source.B.im), .d (.cx .f32 x135.Source.C.re x135.Source.C.im), .row 1 x135.Buses.length 0 x135.Buses.length], .row 8 (x135.Buses.map eSBus), .row 3 (x136.map eSOutage)]) rfl (by simp) rfl (by repeat' first | exact trivial | refine ⟨?_, ?_⟩) ⟨rfl, trivial, rfl, trivial, rfl, trivial, rfl, trivial, rfl, trivial, rfl, trivial, rfl, trivial, rfl, trivial, rfl, trivial, rfl, trivial, rfl, trivial, rfl, trivial, rfl, trivial, trivial⟩) ?_
                  refine awl_val hτ rfl rfl rfl ?_
                  refine awl_val hτ rfl rfl rfl ?_
                  refine awl_val hτ rfl rfl rfl ?_
                  refine awl_split 216 rfl (fun hb326 => ?_) (fun hb326 => ?_)
                  · have hb326 := not_t hb326
                    have h := if_bf h hb326
                    refine awl_skip rfl rfl ?_
                    refine awl_skip rfl rfl ?_
                    refine awl_skip rfl rfl ?_
                    refine awl_skip rfl rfl ?_
                    refine awl_val hτ rfl rfl rfl ?_
                    refine awl_val hτ rfl rfl rfl ?_
                    refine awl_skip rfl rfl ?_
                    refine awl_skip rfl rfl ?_
                    refine awl_skip rfl rfl ?_
                    refine awl_weak (weak_ofP [0, 1, 2] (l := [(5, .ptr 0 0), (6, .row 2 x136.length 0 x136.length), (16, .d (.int .i64 v231)), (17, .d (.int .i64 v232)), (18, .d (.int .i64 v233)), (26, .d (.int .i64 x235.1)), (28, .d (.int .i64 x236.1)), (30, .d (.fl .f32 x237.1)), (31, .d (.fl .f32 x237.2.1)), (32, .d (.fl .f32 x237.2.2.1)), (222, .d (.bool true)), (225, .und)]) (objs := [.box [.d (.cx .f32 x135.Source.A.re x135.Source.A.im), .d (.cx .f32 x135.Source.B.re x135.Source.B.im), .d (.cx .f32 x135.Source.C.re x135.Source.C.im), .row 1 x135.Buses.length 0 x135.Buses.length], .row 8 (x135.Buses.map eSBus), .row 3 (x136.map eSOutage)]) rfl (by simp) rfl (by repeat' first | exact trivial | refine ⟨?_, ?_⟩) ⟨rfl, trivial, rfl, trivial, rfl, trivial, rfl, trivial, rfl, trivial, rfl, trivial, rfl, trivial, rfl, trivial, rfl, trivial, rfl, trivial, rfl, trivial, rfl, trivial, trivial⟩) ?_
                    refine awl_val hτ rfl rfl rfl ?_
                    refine awl_val hτ rfl rfl rfl ?_
                    refine awl_skip rfl rfl ?_
                    refine awl_skip rfl rfl ?_
                    refine awl_skip rfl rfl ?_
                    refine awl_val hτ rfl rfl rfl ?_
                    refine awl_val hτ rfl rfl rfl ?_
                    refine awl_skip rfl rfl ?_
                    refine awl_skip rfl rfl ?_
                    refine awl_skip rfl rfl ?_
                    refine awl_val hτ rfl rfl rfl ?_
                    refine awl_nil ?_
                    refine aw_weak (weak_ofP [0, 1, 2] (l := [(5, .ptr 0 0), (6, .row 2 x136.length 0 x136.length), (16, .d (.int .i64 v231)), (17, .d (.int .i64 v232)), (18, .d (.int .i64 v233)), (30, .d (.fl .f32 x237.1)), (31, .d (.fl .f32 x237.2.1)), (32, .d (.fl .f32 x237.2.2.1)), (236, .d (.bool true))]) (objs := [.box [.d (.cx .f32 x135.Source.A.re x135.Source.A.im), .d (.cx .f32 x135.Source.B.re x135.Source.B.im), .d (.cx .f32 x135.Source.C.re x135.Source.C.im), .row 1 x135.Buses.length 0 x135.Buses.length], .row 8 (x135.Buses.map eSBus), .row 3 (x136.map eSOutage)]) rfl (by simp) rfl (by repeat' first | exact trivial | refine ⟨?_, ?_⟩) ⟨rfl, trivial, rfl, trivial, rfl, trivial, rfl, trivial, rfl, trivial, rfl, trivial, rfl, trivial, rfl, trivial, rfl, trivial, trivial⟩) ?_
                    exact hk322 true h
                  · have hb326 := not_f hb326
                    have h := if_bt h hb326
                    refine awl_val hτ rfl rfl rfl ?_
                    refine awl_val hτ rfl rfl rfl ?_
                    refine awl_weak (weak_ofP [0, 1, 2] (l := [(5, .ptr 0 0), (6, .row 2 x136.length 0 x136.length), (16, .d (.int .i64 v231)), (17, .d (.int .i64 v232)), (18, .d (.int .i64 v233)), (24, .d (.int .i64 x234.1)), (26, .d (.int .i64 x235.1)), (28, .d (.int .i64 x236.1)), (30, .d (.fl .f32 x237.1)), (31, .d (.fl .f32 x237.2.1)), (32, .d (.fl .f32 x237.2.2.1)), (216, .d (.bool false)), (217, .agg [.d (.cx .f32 x135.Source.A.re x135.Source.A.im), .d (.cx .f32 x135.Source.B.re x135.Source.B.im), .d (.cx .f32 x135.Source.C.re x135.Source.C.im), .row 1 x135.Buses.length 0 x135.Buses.length]), (218, .row 2 x136.length 0 x136.length)]) (objs := [.box [.d (.cx .f32 x135.Source.A.re x135.Source.A.im), .d (.cx .f32 x135.Source.B.re x135.Source.B.im), .d (.cx .f32 x135.Source.C.re x135.Source.C.im), .row 1 x135.Buses.length 0 x135.Buses.length], .row 8 (x135.Buses.map eSBus), .row 3 (x136.map eSOutage)]) rfl (by simp) rfl (by repeat' first | exact trivial | refine ⟨?_, ?_⟩) ⟨rfl, trivial, rfl, trivial, rfl, trivial, rfl, trivial, rfl, trivial, rfl, trivial, rfl, trivial, rfl, trivial, rfl, trivial, rfl, trivial, rfl, trivial, rfl, trivial, rfl, (by repeat' first | exact trivial | refine ⟨?_, ?_⟩), rfl, trivial, trivial⟩) ?_
                    refine bnd_elim h fun x327 hx327 h => ?_
                    refine awl_callP hτ true [] rfl rfl rfl (enterOk func81 rfl rfl) (mapO_cons (exV_agg (mapO_cons rfl (mapO_cons rfl (mapO_cons rfl (mapO_cons (exC_view (f := eSBus) x135.Buses rfl rfl rfl) mapO_nil))))) (mapO_cons (exV_view (f := eSOutage) x136 rfl rfl rfl) mapO_nil)) rfl (by simp) ⟨⟨trivial, trivial, trivial, (exP_view (f := eSBus) x135.Buses rfl rfl rfl)⟩, (exVP_view (f := eSOutage) x136 rfl rfl rfl), trivial⟩ (by repeat' first | exact trivial | refine ⟨?_, ?_⟩) (impl_AreOutages_ok_fr n (SFeeder.mk x135.Source x135.Buses) x136 hx327) ?_
                    rintro r0 o0 n0 ⟨rfl, rfl, rfl⟩ -
                    refine awl_val hτ rfl rfl rfl ?_
                    refine awl_val hτ rfl rfl rfl ?_
                    refine awl_val hτ rfl rfl rfl ?_
                    refine awl_split 222 rfl (fun hb328 => ?_) (fun hb328 => ?_)
                    · have hb328 := not_t hb328
                      have h := if_bf h hb328
                      refine awl_skip rfl rfl ?_
                      refine awl_skip rfl rfl ?_
                      refine awl_skip rfl rfl ?_
                      refine awl_val hτ rfl rfl rfl ?_
                      refine awl_val hτ rfl rfl rfl ?_
                      refine awl_skip rfl rfl ?_
                      refine awl_skip rfl rfl ?_
                      refine awl_skip rfl rfl ?_
                      refine awl_weak (weak_ofP [0, 1, 2] (l := [(5, .ptr 0 0), (6, .row 2 x136.length 0 x136.length), (16, .d (.int .i64 v231)), (17, .d (.int .i64 v232)), (18, .d (.int .i64 v233)), (28, .d (.int .i64 x236.1)), (30, .d (.fl .f32 x237.1)), (31, .d (.fl .f32 x237.2.1)), (32, .d (.fl .f32 x237.2.2.1)), (227, .d (.bool true)), (230, .und)]) (objs := [.box [.d (.cx .f32 x135.Source.A.re x135.Source.A.im), .d (.cx .f32 x135.Source.B.re x135.Source.B.im), .d (.cx .f32 x135.Source.C.re x135.Source.C.im), .row 1 x135.Buses.length 0 x135.Buses.length], .row 8 (x135.Buses.map eSBus), .row 3 (x136.map eSOutage)]) rfl (by simp) rfl (by repeat' first | exact trivial | refine ⟨?_, ?_⟩) ⟨rfl, trivial, rfl, trivial, rfl, trivial, rfl, trivial, rfl, trivial, rfl, trivial, rfl, trivial, rfl, trivial, rfl, trivial, rfl, trivial, rfl, trivial, trivial⟩) ?_
                      refine awl_val hτ rfl rfl rfl ?_
                      refine awl_val hτ rfl rfl rfl ?_
                      refine awl_skip rfl rfl ?_
                      refine awl_skip rfl rfl ?_
                      refine awl_skip rfl rfl ?_
                      refine awl_val hτ rfl rfl rfl ?_
                      refine awl_nil ?_
                      refine aw_weak (weak_ofP [0, 1, 2] (l := [(5, .ptr 0 0), (6, .row 2 x136.length 0 x136.length), (16, .d (.int .i64 v231)), (17, .d (.int .i64 v232)), (18, .d (.int .i64 v233)), (30, .d (.fl .f32 x237.1)), (31, .d (.fl .f32 x237.2.1)), (32, .d (.fl .f32 x237.2.2.1)), (236, .d (.bool true))]) (objs := [.box [.d (.cx .f32 x135.Source.A.re x135.Source.A.im), .d (.cx .f32 x135.Source.B.re x135.Source.B.im), .d (.cx .f32 x135.Source.C.re x135.Source.C.im), .row 1 x135.Buses.length 0 x135.Buses.length], .row 8 (x135.Buses.map eSBus), .row 3 (x136.map eSOutage)]) rfl (by simp) rfl (by repeat' first | exact trivial | refine ⟨?_, ?_⟩) ⟨rfl, trivial, rfl, trivial, rfl, trivial, rfl, trivial, rfl, trivial, rfl, trivial, rfl, trivial, rfl, trivial, rfl, trivial, trivial⟩) ?_
                      exact hk322 true h
                    · have hb328 := not_f hb328
                      have h := if_bt h hb328
                      refine awl_val hτ rfl rfl rfl ?_
                      refine awl_val hτ rfl rfl rfl ?_
                      refine awl_val hτ (v := .d (.bool (!(decide (x234.1 = v231))))) rfl rfl (or_ine _ _) ?_
                      refine awl_val hτ rfl rfl rfl ?_
                      refine awl_val hτ rfl rfl rfl ?_
                      refine awl_split 227 rfl (fun hb329 => ?_) (fun hb329 => ?_)
                      · have hb329 := not_t hb329
                        have h := if_f h hb329
                        refine awl_skip rfl rfl ?_
                        refine awl_skip rfl rfl ?_
                        refine awl_skip rfl rfl ?_
                        refine awl_weak (weak_ofP [0, 1, 2] (l := [(5, .ptr 0 0), (6, .row 2 x136.length 0 x136.length), (16, .d (.int .i64 v231)), (17, .d (.int .i64 v232)), (18, .d (.int .i64 v233)), (28, .d (.int .i64 x236.1)), (30, .d (.fl .f32 x237.1)), (31, .d (.fl .f32 x237.2.1)), (32, .d (.fl .f32 x237.2.2.1)), (227, .d (.bool true)), (230, .und)]) (objs := [.box [.d (.cx .f32 x135.Source.A.re x135.Source.A.im), .d (.cx .f32 x135.Source.B.re x135.Source.B.im), .d (.cx .f32 x135.Source.C.re x135.Source.C.im), .row 1 x135.Buses.length 0 x135.Buses.length], .row 8 (x135.Buses.map eSBus), .row 3 (x136.map eSOutage)]) rfl (by simp) rfl (by repeat' first | exact trivial | refine ⟨?_, ?_⟩) ⟨rfl, trivial, rfl, trivial, rfl, trivial, rfl, trivial, rfl, trivial, rfl, trivial, rfl, trivial, rfl, trivial, rfl, trivial, rfl, trivial, rfl, trivial, trivial⟩) ?_
                        refine awl_val hτ rfl rfl rfl ?_
                        refine awl_val hτ rfl rfl rfl ?_
                        refine awl_skip rfl rfl ?_
                        refine awl_skip rfl rfl ?_
                        refine awl_skip rfl rfl ?_
                        refine awl_val hτ rfl rfl rfl ?_
                        refine awl_nil ?_
                        refine aw_weak (weak_ofP [0, 1, 2] (l := [(5, .ptr 0 0), (6, .row 2 x136.length 0 x136.length), (16, .d (.int .i64 v231)), (17, .d (.int .i64 v232)), (18, .d (.int .i64 v233)), (30, .d (.fl .f32 x237.1)), (31, .d (.fl .f32 x237.2.1)), (32, .d (.fl .f32 x237.2.2.1)), (236, .d (.bool true))]) (objs := [.box [.d (.cx .f32 x135.Source.A.re x135.Source.A.im), .d (.cx .f32 x135.Source.B.re x135.Source.B.im), .d (.cx .f32 x135.Source.C.re x135.Source.C.im), .row 1 x135.Buses.length 0 x135.Buses.length], .row 8 (x135.Buses.map eSBus), .row 3 (x136.map eSOutage)]) rfl (by simp) rfl (by repeat' first | exact trivial | refine ⟨?_, ?_⟩) ⟨rfl, trivial, rfl, trivial, rfl, trivial, rfl, trivial, rfl, trivial, rfl, trivial, rfl, trivial, rfl, trivial, rfl, trivial, trivial⟩) ?_
                        exact hk322 true h
                      · have hb329 := not_f hb329
                        have h := if_t h hb329
                        refine awl_val hτ rfl rfl rfl ?_
                        refine awl_val hτ rfl rfl rfl ?_
                        refine awl_val hτ (v := .d (.bool (!(decide (x235.1 = v232))))) rfl rfl (or_ine _ _) ?_
                        refine awl_weak (weak_ofP [0, 1, 2] (l := [(5, .ptr 0 0), (6, .row 2 x136.length 0 x136.length), (16, .d (.int .i64 v231)), (17, .d (.int .i64 v232)), (18, .d (.int .i64 v233)), (28, .d (.int .i64 x236.1)), (30, .d (.fl .f32 x237.1)), (31, .d (.fl .f32 x237.2.1)), (32, .d (.fl .f32 x237.2.2.1)), (227, .d (.bool false)), (230, .d (.bool (!(decide (x235.1 = v232)))))]) (objs := [.box [.d (.cx .f32 x135.Source.A.re x135.Source.A.im), .d (.cx .f32 x135.Source.B.re x135.Source.B.im), .d (.cx .f32 x135.Source.C.re x135.Source.C.im), .row 1 x135.Buses.length 0 x135.Buses.length], .row 8 (x135.Buses.map eSBus), .row 3 (x136.map eSOutage)]) rfl (by simp) rfl (by repeat' first | exact trivial | refine ⟨?_, ?_⟩) ⟨rfl, trivial, rfl, trivial, rfl, trivial, rfl, trivial, rfl, trivial, rfl, trivial, rfl, trivial, rfl, trivial, rfl, trivial, rfl, trivial, rfl, trivial, trivial⟩) ?_
                        refine awl_val hτ rfl rfl rfl ?_
                        refine awl_val hτ rfl rfl rfl ?_
                        refine awl_split 232 rfl (fun hb330 => ?_) (fun hb330 => ?_)
                        · have hb330 := not_t hb330
                          have h := if_f h hb330
                          refine awl_skip rfl rfl ?_
                          refine awl_skip rfl rfl ?_
                          refine awl_skip rfl rfl ?_
                          refine awl_val hτ rfl rfl rfl ?_
                          refine awl_nil ?_
                          refine aw_weak (weak_ofP [0, 1, 2] (l := [(5, .ptr 0 0), (6, .row 2 x136.length 0 x136.length), (16, .d (.int .i64 v231)), (17, .d (.int .i64 v232)), (18, .d (.int .i64 v233)), (30, .d (.fl .f32 x237.1)), (31, .d (.fl .f32 x237.2.1)), (32, .d (.fl .f32 x237.2.2.1)), (236, .d (.bool true))]) (objs := [.box [.d (.cx .f32 x135.Source.A.re x135.Source.A.im), .d (.cx .f32 x135.Source.B.re x135.Source.B.im), .d (.cx .f32 x135.Source.C.re x135.Source.C.im), .row 1 x135.Buses.length 0 x135.Buses.length], .row 8 (x135.Buses.map eSBus), .row 3 (x136.map eSOutage)]) rfl (by simp) rfl (by repeat' first | exact trivial | refine ⟨?_, ?_⟩) ⟨rfl, trivial, rfl, trivial, rfl, trivial, rfl, trivial, rfl, trivial, rfl, trivial, rfl, trivial, rfl, trivial, rfl, trivial, trivial⟩) ?_
                          exact hk322 true h
                        · have hb330 := not_f hb330
                          have h := if_t h hb330
                          refine awl_val hτ rfl rfl rfl ?_
                          refine awl_val hτ rfl rfl rfl ?_
                          refine awl_val hτ (v := .d (.bool (!(decide (x236.1 = v233))))) rfl rfl (or_ine _ _) ?_
                          refine awl_val hτ rfl rfl rfl ?_
                          refine awl_nil ?_
                          refine aw_weak (weak_ofP [0, 1, 2] (l := [(5, .ptr 0 0), (6, .row 2 x136.length 0 x136.length), (16, .d (.int .i64 v231)), (17, .d (.int .i64 v232)), (18, .d (.int .i64 v233)), (30, .d (.fl .f32 x237.1)), (31, .d (.fl .f32 x237.2.1)), (32, .d (.fl .f32 x237.2.2.1)), (236, .d (.bool (!(decide (x236.1 = v233)))))]) (objs := [.box [.d (.cx .f32 x135.Source.A.re x135.Source.A.im), .d (.cx .f32 x135.Source.B.re x135.Source.B.im), .d (.cx .f32 x135.Source.C.re x135.Source.C.im), .row 1 x135.Buses.length 0 x135.Buses.length], .row 8 (x135.Buses.map eSBus), .row 3 (x136.map eSOutage)]) rfl (by simp) rfl (by repeat' first | exact trivial | refine ⟨?_, ?_⟩) ⟨rfl, trivial, rfl, trivial, rfl, trivial, rfl, trivial, rfl, trivial, rfl, trivial, rfl, trivial, rfl, trivial, rfl, trivial, trivial⟩) ?_
                          exact hk322 (!(decide (x236.1 = v233))) h
      · refine aw_seq ?_
        refine aw_seq ?_
        refine aw_region ?_
        refine awl_val hτ rfl rfl rfl ?_
        refine awl_val hτ rfl rfl rfl ?_
        refine awl_need hτ rfl rfl rfl (len_map _) ?_
        refine awl_val hτ rfl rfl rfl ?_
        refine awl_nil ?_
        refine aw_block ?_
        refine aw_loop (ι := Nat × Int × Int × Int × Int) (fun (m358, v341, v342, v343, v344) => St.of [(5, .ptr 0 0), (6, .row 2 x136.length 0 x136.length), (8, .row 3 v203.length 0 v203.length), (9, .row 4 v204.length 0 v204.length), (16, .d (.int .i64 v341)), (17, .d (.int .i64 v342)), (18, .d (.int .i64 v343)), (108, .d (.int .i64 (x135.Buses.length : Int))), (109, .d (.int .i64 v344))] [.box [.d (.cx .f32 x135.Source.A.re x135.Source.A.im), .d (.cx .f32 x135.Source.B.re x135.Source.B.im), .d (.cx .f32 x135.Source.C.re x135.Source.C.im), .row 1 x135.Buses.length 0 x135.Buses.length], .row 8 (x135.Buses.map eSBus), .row 3 (x136.map eSOutage), .row 1 (v203.map eInti64), .row 1 (v204.map eInti64)] f9.ntmps 0) (fun (m358, v341, v342, v343, v344) => m_laws_FnDark_l10 n x135 x136 v203 v204 m358 v341 v342 v343 v344 = some r) (fun x => x.1) (n, (0 : Int), (0 : Int), (0 : Int), (0 : Int)) h (weak_ofP [0, 1, 2, 3, 4] (l := [(5, .ptr 0 0), (6, .row 2 x136.length 0 x136.length), (8, .row 3 v203.length 0 v203.length), (9, .row 4 v204.length 0 v204.length), (16, .d (.int .i64 (0 : Int))), (17, .d (.int .i64 (0 : Int))), (18, .d (.int .i64 (0 : Int))), (108, .d (.int .i64 (x135.Buses.length : Int))), (109, .d (.int .i64 (0 : Int)))]) (objs := [.box [.d (.cx .f32 x135.Source.A.re x135.Source.A.im), .d (.cx .f32 x135.Source.B.re x135.Source.B.im), .d (.cx .f32 x135.Source.C.re x135.Source.C.im), .row 1 x135.Buses.length 0 x135.Buses.length], .row 8 (x135.Buses.map eSBus), .row 3 (x136.map eSOutage), .row 1 (v203.map eInti64), .row 1 (v204.map eInti64)]) rfl (by simp) rfl (by repeat' first | exact trivial | refine ⟨?_, ?_⟩) ⟨rfl, trivial, rfl, trivial, rfl, trivial, rfl, trivial, rfl, trivial, rfl, trivial, rfl, trivial, rfl, trivial, rfl, trivial, trivial⟩) ?_
        rintro ⟨m358, v341, v342, v343, v344⟩ h
        replace h : m_laws_FnDark_l10 n x135 x136 v203 v204 m358 v341 v342 v343 v344 = some r := h
        rcases m358 with _ | m358
        · rw [m_laws_FnDark_l10] at h; cases h
        rw [m_laws_FnDark_l10] at h
        refine aw_seq ?_
        refine aw_region ?_
        refine awl_val hτ rfl rfl rfl ?_
        refine awl_nil ?_
        refine aw_seq ?_
        refine aw_cond rfl (fun hc360 => ?_) (fun hc360 => ?_)
        · have h := if_t h hc360
          refine aw_skip ?_
          refine aw_hk1 (ι := Int × Int × Int) (fun (v370, v371, v372) => St.of [(5, .ptr 0 0), (6, .row 2 x136.length 0 x136.length), (8, .row 3 v203.length 0 v203.length), (9, .row 4 v204.length 0 v204.length), (16, .d (.int .i64 v370)), (17, .d (.int .i64 v371)), (18, .d (.int .i64 v372)), (108, .d (.int .i64 (x135.Buses.length : Int))), (109, .d (.int .i64 v344))] [.box [.d (.cx .f32 x135.Source.A.re x135.Source.A.im), .d (.cx .f32 x135.Source.B.re x135.Source.B.im), .d (.cx .f32 x135.Source.C.re x135.Source.C.im), .row 1 x135.Buses.length 0 x135.Buses.length], .row 8 (x135.Buses.map eSBus), .row 3 (x136.map eSOutage), .row 1 (v203.map eInti64), .row 1 (v204.map eInti64)] f9.ntmps 0) (fun (v370, v371, v372) => m_laws_FnDark_j11 n (m_laws_FnDark_l10 n x135 x136 v203 v204 m358) v344 v370 v371 v372 = some r) ?_ (fun hk373 => ?_)
          · rintro ⟨v370, v371, v372⟩ h
            replace h : m_laws_FnDark_j11 n (m_laws_FnDark_l10 n x135 x136 v203 v204 m358) v344 v370 v371 v372 = some r := h
            unfold m_laws_FnDark_j11 at h
            refine aw_region ?_
            refine awl_val hτ rfl rfl rfl ?_
            refine awl_val hτ rfl rfl rfl ?_
            refine awl_nil ?_
            exact ⟨(m358, v370, v371, v372, (w64 (v344 + (1 : Int)))), h, Nat.lt_succ_self m358, (weak_ofP [0, 1, 2, 3, 4] (l := [(5, .ptr 0 0), (6, .row 2 x136.length 0 x136.length), (8, .row 3 v203.length 0 v203.length), (9, .row 4 v204.length 0 v204.length), (16, .d (.int .i64 v370)), (17, .d (.int .i64 v371)), (18, .d (.int .i64 v372)), (108, .d (.int .i64 (x135.Buses.length : Int))), (109, .d (.int .i64 (w64 (v344 + (1 : Int)))))]) (objs := [.box [.d (.cx .f32 x135.Source.A.re x135.Source.A.im), .d (.cx .f32 x135.Source.B.re x135.Source.B.im), .d (.cx .f32 x135.Source.C.re x135.Source.C.im), .row 1 x135.Buses.length 0 x135.Buses.length], .row 8 (x135.Buses.map eSBus), .row 3 (x136.map eSOutage), .row 1 (v203.map eInti64), .row 1 (v204.map eInti64)]) rfl (by simp) rfl (by repeat' first | exact trivial | refine ⟨?_, ?_⟩) ⟨rfl, trivial, rfl, trivial, rfl, trivial, rfl, trivial, rfl, trivial, rfl, trivial, rfl, trivial, rfl, trivial, rfl, trivial, trivial⟩)⟩
          · refine aw_seq ?_
            refine aw_block ?_
            refine aw_seq ?_
            refine aw_region ?_
            refine awl_val hτ rfl rfl rfl ?_
            refine awl_val hτ rfl rfl rfl ?_
            refine awl_nil ?_
            refine aw_seq ?_
            refine aw_region ?_
            refine awl_val hτ rfl rfl rfl ?_
            refine awl_val hτ rfl rfl rfl ?_
            refine awl_val hτ rfl rfl rfl ?_
            refine awl_weak (weak_ofP [0, 1, 2, 3, 4] (l := [(5, .ptr 0 0), (6, .row 2 x136.length 0 x136.length), (8, .row 3 v203.length 0 v203.length), (9, .row 4 v204.length 0 v204.length), (16, .d (.int .i64 v341)), (17, .d (.int .i64 v342)), (18, .d (.int .i64 v343)), (19, .d (.int .i64 v344)), (108, .d (.int .i64 (x135.Buses.length : Int))), (109, .d (.int .i64 v344)), (113, .agg [.d (.cx .f32 x135.Source.A.re x135.Source.A.im), .d (.cx .f32 x135.Source.B.re x135.Source.B.im), .d (.cx .f32 x135.Source.C.re x135.Source.C.im), .row 1 x135.Buses.length 0 x135.Buses.length]), (114, .row 2 x136.length 0 x136.length), (115, .d (.int .i64 v344))]) (objs := [.box [.d (.cx .f32 x135.Source.A.re x135.Source.A.im), .d (.cx .f32 x135.Source.B.re x135.Source.B.im), .d (.cx .f32 x135.Source.C.re x135.Source.C.im), .row 1 x135.Buses.length 0 x135.Buses.length], .row 8 (x135.Buses.map eSBus), .row 3 (x136.map eSOutage), .row 1 (v203.map eInti64), .row 1 (v204.map eInti64)]) rfl (by simp) rfl (by repeat' first | exact trivial | refine ⟨?_, ?_⟩) ⟨rfl, trivial, rfl, trivial, rfl, trivial, rfl, trivial, rfl, trivial, rfl, trivial, rfl, trivial, rfl, trivial, rfl, trivial, rfl, trivial, rfl, (by repeat' first | exact trivial | refine ⟨?_, ?_⟩), rfl, trivial, rfl, trivial, trivial⟩) ?_
            refine bnd_elim h fun x374 hx374 h => ?_
            refine awl_callP hτ true [] rfl rfl rfl (enterOk func75 rfl rfl) (mapO_cons (exV_agg (mapO_cons rfl (mapO_cons rfl (mapO_cons rfl (mapO_cons (exC_view (f := eSBus) x135.Buses rfl rfl rfl) mapO_nil))))) (mapO_cons (exV_view (f := eSOutage) x136 rfl rfl rfl) (mapO_cons rfl mapO_nil))) rfl (by simp) ⟨⟨trivial, trivial, trivial, (exP_view (f := eSBus) x135.Buses rfl rfl rfl)⟩, (exVP_view (f := eSOutage) x136 rfl rfl rfl), trivial, trivial⟩ (by repeat' first | exact trivial | refine ⟨?_, ?_⟩) (impl_DarkTicks_ok_fr n (SFeeder.mk x135.Source x135.Buses) x136 v344 hx374) ?_
            rintro r0 o0 n0 ⟨rfl, rfl, rfl⟩ -
            refine awl_val hτ rfl rfl rfl ?_
            refine awl_val hτ rfl rfl rfl ?_
            refine awl_val hτ rfl rfl rfl ?_
            refine awl_val hτ rfl rfl rfl ?_
            refine awl_val hτ rfl rfl rfl ?_
            refine awl_nil ?_
            refine aw_seq ?_
            refine aw_weak (weak_ofP [0, 1, 2, 3, 4] (l := [(5, .ptr 0 0), (6, .row 2 x136.length 0 x136.length), (8, .row 3 v203.length 0 v203.length), (9, .row 4 v204.length 0 v204.length), (16, .d (.int .i64 v341)), (17, .d (.int .i64 v342)), (18, .d (.int .i64 v343)), (19, .d (.int .i64 v344)), (20, .d (.int .i64 x374.1)), (21, .d (.bool x374.2)), (108, .d (.int .i64 (x135.Buses.length : Int))), (109, .d (.int .i64 v344))]) (objs := [.box [.d (.cx .f32 x135.Source.A.re x135.Source.A.im), .d (.cx .f32 x135.Source.B.re x135.Source.B.im), .d (.cx .f32 x135.Source.C.re x135.Source.C.im), .row 1 x135.Buses.length 0 x135.Buses.length], .row 8 (x135.Buses.map eSBus), .row 3 (x136.map eSOutage), .row 1 (v203.map eInti64), .row 1 (v204.map eInti64)]) rfl (by simp) rfl (by repeat' first | exact trivial | refine ⟨?_, ?_⟩) ⟨rfl, trivial, rfl, trivial, rfl, trivial, rfl, trivial, rfl, trivial, rfl, trivial, rfl, trivial, rfl, trivial, rfl, trivial, rfl, trivial, rfl, trivial, rfl, trivial, trivial⟩) ?_
            refine aw_region ?_
            refine awl_val hτ rfl rfl rfl ?_
            refine awl_val hτ rfl rfl rfl ?_
            refine awl_val hτ rfl rfl rfl ?_
            refine awl_weak (weak_ofP [0, 1, 2, 3, 4] (l := [(5, .ptr 0 0), (6, .row 2 x136.length 0 x136.length), (8, .row 3 v203.length 0 v203.length), (9, .row 4 v204.length 0 v204.length), (16, .d (.int .i64 v341)), (17, .d (.int .i64 v342)), (18, .d (.int .i64 v343)), (19, .d (.int .i64 v344)), (20, .d (.int .i64 x374.1)), (21, .d (.bool x374.2)), (108, .d (.int .i64 (x135.Buses.length : Int))), (109, .d (.int .i64 v344)), (120, .agg [.d (.cx .f32 x135.Source.A.re x135.Source.A.im), .d (.cx .f32 x135.Source.B.re x135.Source.B.im), .d (.cx .f32 x135.Source.C.re x135.Source.C.im), .row 1 x135.Buses.length 0 x135.Buses.length]), (121, .row 2 x136.length 0 x136.length), (122, .d (.int .i64 v344))]) (objs := [.box [.d (.cx .f32 x135.Source.A.re x135.Source.A.im), .d (.cx .f32 x135.Source.B.re x135.Source.B.im), .d (.cx .f32 x135.Source.C.re x135.Source.C.im), .row 1 x135.Buses.length 0 x135.Buses.length], .row 8 (x135.Buses.map eSBus), .row 3 (x136.map eSOutage), .row 1 (v203.map eInti64), .row 1 (v204.map eInti64)]) rfl (by simp) rfl (by repeat' first | exact trivial | refine ⟨?_, ?_⟩) ⟨rfl, trivial, rfl, trivial, rfl, trivial, rfl, trivial, rfl, trivial, rfl, trivial, rfl, trivial, rfl, trivial, rfl, trivial, rfl, trivial, rfl, trivial, rfl, trivial, rfl, (by repeat' first | exact trivial | refine ⟨?_, ?_⟩), rfl, trivial, rfl, trivial, trivial⟩) ?_
            refine bnd_elim h fun x375 hx375 h => ?_
            refine awl_callP hτ true [] rfl rfl rfl (enterOk func76 rfl rfl) (mapO_cons (exV_agg (mapO_cons rfl (mapO_cons rfl (mapO_cons rfl (mapO_cons (exC_view (f := eSBus) x135.Buses rfl rfl rfl) mapO_nil))))) (mapO_cons (exV_view (f := eSOutage) x136 rfl rfl rfl) (mapO_cons rfl mapO_nil))) rfl (by simp) ⟨⟨trivial, trivial, trivial, (exP_view (f := eSBus) x135.Buses rfl rfl rfl)⟩, (exVP_view (f := eSOutage) x136 rfl rfl rfl), trivial, trivial⟩ (by repeat' first | exact trivial | refine ⟨?_, ?_⟩) (impl_DarkTimes_ok_fr n (SFeeder.mk x135.Source x135.Buses) x136 v344 hx375) ?_
            rintro r0 o0 n0 ⟨rfl, rfl, rfl⟩ -
            refine awl_val hτ rfl rfl rfl ?_
            refine awl_val hτ rfl rfl rfl ?_
            refine awl_val hτ rfl rfl rfl ?_
            refine awl_val hτ rfl rfl rfl ?_
            refine awl_val hτ rfl rfl rfl ?_
            refine awl_nil ?_
            refine aw_hk1 (ι := Unit) (fun _ => St.of [(5, .ptr 0 0), (6, .row 2 x136.length 0 x136.length), (8, .row 3 v203.length 0 v203.length), (9, .row 4 v204.length 0 v204.length), (16, .d (.int .i64 v341)), (17, .d (.int .i64 v342)), (18, .d (.int .i64 v343)), (19, .d (.int .i64 v344)), (20, .d (.int .i64 x374.1)), (22, .d (.int .i64 x375.1)), (108, .d (.int .i64 (x135.Buses.length : Int))), (109, .d (.int .i64 v344))] [.box [.d (.cx .f32 x135.Source.A.re x135.Source.A.im), .d (.cx .f32 x135.Source.B.re x135.Source.B.im), .d (.cx .f32 x135.Source.C.re x135.Source.C.im), .row 1 x135.Buses.length 0 x135.Buses.length], .row 8 (x135.Buses.map eSBus), .row 3 (x136.map eSOutage), .row 1 (v203.map eInti64), .row 1 (v204.map eInti64)] f9.ntmps 0) (fun _ => m_laws_FnDark_j12 n x135 (m_laws_FnDark_l10 n x135 x136 v203 v204 m358) v341 v342 v343 v344 x374 x375 = some r) ?_ (fun hk383 => ?_)
            · rintro ⟨⟩ h
              replace h : m_laws_FnDark_j12 n x135 (m_laws_FnDark_l10 n x135 x136 v203 v204 m358) v341 v342 v343 v344 x374 x375 = some r := h
              unfold m_laws_FnDark_j12 at h
              refine aw_seq ?_
              refine aw_region ?_
              refine awl_val hτ rfl rfl rfl ?_
              refine awl_val hτ rfl rfl rfl ?_
              refine awl_val hτ rfl rfl rfl ?_
              refine awl_val hτ rfl rfl rfl ?_
              refine awl_val hτ rfl rfl rfl ?_
              refine bnd_elim h fun x382 hx382 h => ?_
              refine awl_need hτ rfl rfl rfl (row_need hx382) ?_
              refine awl_need hτ rfl rfl rfl (len_map _) ?_
              refine awl_elem hτ rfl rfl rfl (len_map _) (row_get hx382) rfl ?_
              refine awl_val hτ rfl rfl rfl ?_
              refine awl_val hτ rfl rfl rfl ?_
              refine awl_val hτ rfl rfl rfl ?_
              refine awl_nil ?_
              refine aw_seq ?_
              refine aw_weak (weak_ofP [0, 1, 2, 3, 4] (l := [(5, .ptr 0 0), (6, .row 2 x136.length 0 x136.length), (8, .row 3 v203.length 0 v203.length), (9, .row 4 v204.length 0 v204.length), (16, .d (.int .i64 (w64 (v341 + (w64 (x374.1 * x382.Customers)))))), (17, .d (.int .i64 v342)), (18, .d (.int .i64 v343)), (19, .d (.int .i64 v344)), (22, .d (.int .i64 x375.1)), (108, .d (.int .i64 (x135.Buses.length : Int))), (109, .d (.int .i64 v344))]) (objs := [.box [.d (.cx .f32 x135.Source.A.re x135.Source.A.im), .d (.cx .f32 x135.Source.B.re x135.Source.B.im), .d (.cx .f32 x135.Source.C.re x135.Source.C.im), .row 1 x135.Buses.length 0 x135.Buses.length], .row 8 (x135.Buses.map eSBus), .row 3 (x136.map eSOutage), .row 1 (v203.map eInti64), .row 1 (v204.map eInti64)]) rfl (by simp) rfl (by repeat' first | exact trivial | refine ⟨?_, ?_⟩) ⟨rfl, trivial, rfl, trivial, rfl, trivial, rfl, trivial, rfl, trivial, rfl, trivial, rfl, trivial, rfl, trivial, rfl, trivial, rfl, trivial, rfl, trivial, trivial⟩) ?_
              refine aw_region ?_
              refine awl_val hτ rfl rfl rfl ?_
              refine awl_val hτ rfl rfl rfl ?_
              refine awl_val hτ rfl rfl rfl ?_
              refine awl_val hτ rfl rfl rfl ?_
              refine awl_val hτ rfl rfl rfl ?_
              refine awl_need hτ rfl rfl rfl (row_need hx382) ?_
              refine awl_need hτ rfl rfl rfl (len_map _) ?_
              refine awl_elem hτ rfl rfl rfl (len_map _) (row_get hx382) rfl ?_
              refine awl_val hτ rfl rfl rfl ?_
              refine awl_val hτ rfl rfl rfl ?_
              refine awl_val hτ rfl rfl rfl ?_
              refine awl_nil ?_
              refine aw_weak (weak_ofP [0, 1, 2, 3, 4] (l := [(5, .ptr 0 0), (6, .row 2 x136.length 0 x136.length), (8, .row 3 v203.length 0 v203.length), (9, .row 4 v204.length 0 v204.length), (16, .d (.int .i64 (w64 (v341 + (w64 (x374.1 * x382.Customers)))))), (17, .d (.int .i64 (w64 (v342 + (w64 (x375.1 * x382.Customers)))))), (18, .d (.int .i64 v343)), (19, .d (.int .i64 v344)), (108, .d (.int .i64 (x135.Buses.length : Int))), (109, .d (.int .i64 v344))]) (objs := [.box [.d (.cx .f32 x135.Source.A.re x135.Source.A.im), .d (.cx .f32 x135.Source.B.re x135.Source.B.im), .d (.cx .f32 x135.Source.C.re x135.Source.C.im), .row 1 x135.Buses.length 0 x135.Buses.length], .row 8 (x135.Buses.map eSBus), .row 3 (x136.map eSOutage), .row 1 (v203.map eInti64), .row 1 (v204.map eInti64)]) rfl (by simp) rfl (by repeat' first | exact trivial | refine ⟨?_, ?_⟩) ⟨rfl, trivial, rfl, trivial, rfl, trivial, rfl, trivial, rfl, trivial, rfl, trivial, rfl, trivial, rfl, trivial, rfl, trivial, rfl, trivial, trivial⟩) ?_
              refine aw_region ?_
              refine awl_val hτ rfl rfl rfl ?_
              refine awl_val hτ rfl rfl rfl ?_
              refine awl_val hτ rfl rfl rfl ?_
              refine awl_val hτ rfl rfl rfl ?_
              refine awl_need hτ rfl rfl rfl (row_need hx382) ?_
              refine awl_need hτ rfl rfl rfl (len_map _) ?_
              refine awl_elem hτ rfl rfl rfl (len_map _) (row_get hx382) rfl ?_
              refine awl_val hτ rfl rfl rfl ?_
              refine awl_val hτ rfl rfl rfl ?_
              refine awl_nil ?_
              refine aw_weak (weak_ofP [0, 1, 2, 3, 4] (l := [(5, .ptr 0 0), (6, .row 2 x136.length 0 x136.length), (8, .row 3 v203.length 0 v203.length), (9, .row 4 v204.length 0 v204.length), (16, .d (.int .i64 (w64 (v341 + (w64 (x374.1 * x382.Customers)))))), (17, .d (.int .i64 (w64 (v342 + (w64 (x375.1 * x382.Customers)))))), (18, .d (.int .i64 (w64 (v343 + x382.Customers)))), (108, .d (.int .i64 (x135.Buses.length : Int))), (109, .d (.int .i64 v344))]) (objs := [.box [.d (.cx .f32 x135.Source.A.re x135.Source.A.im), .d (.cx .f32 x135.Source.B.re x135.Source.B.im), .d (.cx .f32 x135.Source.C.re x135.Source.C.im), .row 1 x135.Buses.length 0 x135.Buses.length], .row 8 (x135.Buses.map eSBus), .row 3 (x136.map eSOutage), .row 1 (v203.map eInti64), .row 1 (v204.map eInti64)]) rfl (by simp) rfl (by repeat' first | exact trivial | refine ⟨?_, ?_⟩) ⟨rfl, trivial, rfl, trivial, rfl, trivial, rfl, trivial, rfl, trivial, rfl, trivial, rfl, trivial, rfl, trivial, rfl, trivial, trivial⟩) ?_
              exact hk373 ((w64 (v341 + (w64 (x374.1 * x382.Customers)))), (w64 (v342 + (w64 (x375.1 * x382.Customers)))), (w64 (v343 + x382.Customers))) h
            · refine aw_seq ?_
              refine aw_hk1 (ι := Bool) (fun v390 => St.of [(5, .ptr 0 0), (6, .row 2 x136.length 0 x136.length), (8, .row 3 v203.length 0 v203.length), (9, .row 4 v204.length 0 v204.length), (16, .d (.int .i64 v341)), (17, .d (.int .i64 v342)), (18, .d (.int .i64 v343)), (19, .d (.int .i64 v344)), (20, .d (.int .i64 x374.1)), (22, .d (.int .i64 x375.1)), (108, .d (.int .i64 (x135.Buses.length : Int))), (109, .d (.int .i64 v344)), (147, .d (.bool v390))] [.box [.d (.cx .f32 x135.Source.A.re x135.Source.A.im), .d (.cx .f32 x135.Source.B.re x135.Source.B.im), .d (.cx .f32 x135.Source.C.re x135.Source.C.im), .row 1 x135.Buses.length 0 x135.Buses.length], .row 8 (x135.Buses.map eSBus), .row 3 (x136.map eSOutage), .row 1 (v203.map eInti64), .row 1 (v204.map eInti64)] f9.ntmps 0) (fun v390 => m_laws_FnDark_j13 n x135 (m_laws_FnDark_l10 n x135 x136 v203 v204 m358) v341 v342 v343 v344 x374 x375 v390 = some r) ?_ (fun hk392 => ?_)
              · rintro v390 h
                replace h : m_laws_FnDark_j13 n x135 (m_laws_FnDark_l10 n x135 x136 v203 v204 m358) v341 v342 v343 v344 x374 x375 v390 = some r := h
                unfold m_laws_FnDark_j13 at h
                refine aw_cond rfl (fun hc391 => ?_) (fun hc391 => ?_)
                · have h := if_bt h hc391
                  refine aw_seq ?_
                  refine aw_region ?_
                  refine awl_val hτ rfl rfl rfl ?_
                  refine awl_nil ?_
                  refine aw_weak (weak_ofP [] (l := [(4, .d (.bool false))]) (objs := []) rfl (by simp) rfl (by repeat' first | exact trivial | refine ⟨?_, ?_⟩) ⟨rfl, trivial, trivial⟩) ?_
                  refine aw_ret ?_
                  have hr := Option.some.inj h
                  subst hr
                  exact ret_objs (.inr rfl) [] (objs' := []) (new := []) rfl (by simp) (by simp) rfl (by repeat' first | exact trivial | refine ⟨?_, ?_⟩) rfl rfl (by repeat' first | exact trivial | refine ⟨?_, ?_⟩) (fun _ => ⟨by simp [V.flat, V.flatA, V.flatC, D.flat], flat_nil⟩) ⟨rfl, rfl, rfl⟩
                · have h := if_bf h hc391
                  refine aw_skip ?_
                  refine aw_weak (weak_ofP [0, 1, 2, 3, 4] (l := [(5, .ptr 0 0), (6, .row 2 x136.length 0 x136.length), (8, .row 3 v203.length 0 v203.length), (9, .row 4 v204.length 0 v204.length), (16, .d (.int .i64 v341)), (17, .d (.int .i64 v342)), (18, .d (.int .i64 v343)), (19, .d (.int .i64 v344)), (20, .d (.int .i64 x374.1)), (22, .d (.int .i64 x375.1)), (108, .d (.int .i64 (x135.Buses.length : Int))), (109, .d (.int .i64 v344))]) (objs := [.box [.d (.cx .f32 x135.Source.A.re x135.Source.A.im), .d (.cx .f32 x135.Source.B.re x135.Source.B.im), .d (.cx .f32 x135.Source.C.re x135.Source.C.im), .row 1 x135.Buses.length 0 x135.Buses.length], .row 8 (x135.Buses.map eSBus), .row 3 (x136.map eSOutage), .row 1 (v203.map eInti64), .row 1 (v204.map eInti64)]) rfl (by simp) rfl (by repeat' first | exact trivial | refine ⟨?_, ?_⟩) ⟨rfl, trivial, rfl, trivial, rfl, trivial, rfl, trivial, rfl, trivial, rfl, trivial, rfl, trivial, rfl, trivial, rfl, trivial, rfl, trivial, rfl, trivial, rfl, trivial, trivial⟩) ?_
                  exact hk383 () h
              · refine aw_seq ?_
                refine aw_weak (weak_ofP [0, 1, 2, 3, 4] (l := [(5, .ptr 0 0), (6, .row 2 x136.length 0 x136.length), (8, .row 3 v203.length 0 v203.length), (9, .row 4 v204.length 0 v204.length), (16, .d (.int .i64 v341)), (17, .d (.int .i64 v342)), (18, .d (.int .i64 v343)), (19, .d (.int .i64 v344)), (20, .d (.int .i64 x374.1)), (21, .d (.bool x374.2)), (22, .d (.int .i64 x375.1)), (23, .d (.bool x375.2)), (108, .d (.int .i64 (x135.Buses.length : Int))), (109, .d (.int .i64 v344))]) (objs := [.box [.d (.cx .f32 x135.Source.A.re x135.Source.A.im), .d (.cx .f32 x135.Source.B.re x135.Source.B.im), .d (.cx .f32 x135.Source.C.re x135.Source.C.im), .row 1 x135.Buses.length 0 x135.Buses.length], .row 8 (x135.Buses.map eSBus), .row 3 (x136.map eSOutage), .row 1 (v203.map eInti64), .row 1 (v204.map eInti64)]) rfl (by simp) rfl (by repeat' first | exact trivial | refine ⟨?_, ?_⟩) ⟨rfl, trivial, rfl, trivial, rfl, trivial, rfl, trivial, rfl, trivial, rfl, trivial, rfl, trivial, rfl, trivial, rfl, trivial, rfl, trivial, rfl, trivial, rfl, trivial, rfl, trivial, rfl, trivial, trivial⟩) ?_
                refine aw_region ?_
                refine awl_val hτ rfl rfl rfl ?_
                refine awl_val hτ rfl rfl rfl ?_
                refine awl_val hτ rfl rfl rfl ?_
                refine awl_split 128 rfl (fun hb393 => ?_) (fun hb393 => ?_)
                · have hb393 := not_t hb393
                  have h := if_bf h hb393
                  refine awl_skip rfl rfl ?_
                  refine awl_skip rfl rfl ?_
                  refine awl_val hτ rfl rfl rfl ?_
                  refine awl_val hτ rfl rfl rfl ?_
                  refine awl_skip rfl rfl ?_
                  refine awl_skip rfl rfl ?_
                  refine awl_skip rfl rfl ?_
                  refine awl_skip rfl rfl ?_
                  refine awl_skip rfl rfl ?_
                  refine awl_weak (weak_ofP [0, 1, 2, 3, 4] (l := [(5, .ptr 0 0), (6, .row 2 x136.length 0 x136.length), (8, .row 3 v203.length 0 v203.length), (9, .row 4 v204.length 0 v204.length), (16, .d (.int .i64 v341)), (17, .d (.int .i64 v342)), (18, .d (.int .i64 v343)), (19, .d (.int .i64 v344)), (20, .d (.int .i64 x374.1)), (22, .d (.int .i64 x375.1)), (108, .d (.int .i64 (x135.Buses.length : Int))), (109, .d (.int .i64 v344)), (132, .d (.bool true)), (133, .und), (137, .und)]) (objs := [.box [.d (.cx .f32 x135.Source.A.re x135.Source.A.im), .d (.cx .f32 x135.Source.B.re x135.Source.B.im), .d (.cx .f32 x135.Source.C.re x135.Source.C.im), .row 1 x135.Buses.length 0 x135.Buses.length], .row 8 (x135.Buses.map eSBus), .row 3 (x136.map eSOutage), .row 1 (v203.map eInti64), .row 1 (v204.map eInti64)]) rfl (by simp) rfl (by repeat' first | exact trivial | refine ⟨?_, ?_⟩) ⟨rfl, trivial, rfl, trivial, rfl, trivial, rfl, trivial, rfl, trivial, rfl, trivial, rfl, trivial, rfl, trivial, rfl, trivial, rfl, trivial, rfl, trivial, rfl, trivial, rfl, trivial, rfl, trivial, rfl, trivial, trivial⟩) ?_
                  refine awl_skip rfl rfl ?_
                  refine awl_val hτ rfl rfl rfl ?_
                  refine awl_val hτ rfl rfl rfl ?_
                  refine awl_skip rfl rfl ?_
                  refine awl_skip rfl rfl ?_
                  refine awl_skip rfl rfl ?_
                  refine awl_skip rfl rfl ?_
                  refine awl_skip rfl rfl ?_
                  refine awl_skip rfl rfl ?_
                  refine awl_val hτ rfl rfl rfl ?_
                  refine awl_nil ?_
                  refine aw_weak (weak_ofP [0, 1, 2, 3, 4] (l := [(5, .ptr 0 0), (6, .row 2 x136.length 0 x136.length), (8, .row 3 v203.length 0 v203.length), (9, .row 4 v204.length 0 v204.length), (16, .d (.int .i64 v341)), (17, .d (.int .i64 v342)), (18, .d (.int .i64 v343)), (19, .d (.int .i64 v344)), (20, .d (.int .i64 x374.1)), (22, .d (.int .i64 x375.1)), (108, .d (.int .i64 (x135.Buses.length : Int))), (109, .d (.int .i64 v344)), (147, .d (.bool true))]) (objs := [.box [.d (.cx .f32 x135.Source.A.re x135.Source.A.im), .d (.cx .f32 x135.Source.B.re x135.Source.B.im), .d (.cx .f32 x135.Source.C.re x135.Source.C.im), .row 1 x135.Buses.length 0 x135.Buses.length], .row 8 (x135.Buses.map eSBus), .row 3 (x136.map eSOutage), .row 1 (v203.map eInti64), .row 1 (v204.map eInti64)]) rfl (by simp) rfl (by repeat' first | exact trivial | refine ⟨?_, ?_⟩) ⟨rfl, trivial, rfl, trivial, rfl, trivial, rfl, trivial, rfl, trivial, rfl, trivial, rfl, trivial, rfl, trivial, rfl, trivial, rfl, trivial, rfl, trivial, rfl, trivial, rfl, trivial, trivial⟩) ?_
                  exact hk392 true h
                · have hb393 := not_f hb393
                  have h := if_bt h hb393
                  refine awl_val hτ rfl rfl rfl ?_
                  refine awl_val hτ rfl rfl rfl ?_
                  refine awl_val hτ rfl rfl rfl ?_
                  refine awl_val hτ rfl rfl rfl ?_
                  refine awl_split 132 rfl (fun hb394 => ?_) (fun hb394 => ?_)
                  · have hb394 := not_t hb394
                    have h := if_bf h hb394
                    refine awl_skip rfl rfl ?_
                    refine awl_skip rfl rfl ?_
                    refine awl_skip rfl rfl ?_
                    refine awl_skip rfl rfl ?_
                    refine awl_skip rfl rfl ?_
                    refine awl_weak (weak_ofP [0, 1, 2, 3, 4] (l := [(5, .ptr 0 0), (6, .row 2 x136.length 0 x136.length), (8, .row 3 v203.length 0 v203.length), (9, .row 4 v204.length 0 v204.length), (16, .d (.int .i64 v341)), (17, .d (.int .i64 v342)), (18, .d (.int .i64 v343)), (19, .d (.int .i64 v344)), (20, .d (.int .i64 x374.1)), (22, .d (.int .i64 x375.1)), (108, .d (.int .i64 (x135.Buses.length : Int))), (109, .d (.int .i64 v344)), (132, .d (.bool true)), (133, .und), (137, .und)]) (objs := [.box [.d (.cx .f32 x135.Source.A.re x135.Source.A.im), .d (.cx .f32 x135.Source.B.re x135.Source.B.im), .d (.cx .f32 x135.Source.C.re x135.Source.C.im), .row 1 x135.Buses.length 0 x135.Buses.length], .row 8 (x135.Buses.map eSBus), .row 3 (x136.map eSOutage), .row 1 (v203.map eInti64), .row 1 (v204.map eInti64)]) rfl (by simp) rfl (by repeat' first | exact trivial | refine ⟨?_, ?_⟩) ⟨rfl, trivial, rfl, trivial, rfl, trivial, rfl, trivial, rfl, trivial, rfl, trivial, rfl, trivial, rfl, trivial, rfl, trivial, rfl, trivial, rfl, trivial, rfl, trivial, rfl, trivial, rfl, trivial, rfl, trivial, trivial⟩) ?_
                    refine awl_skip rfl rfl ?_
                    refine awl_val hτ rfl rfl rfl ?_
                    refine awl_val hτ rfl rfl rfl ?_
                    refine awl_skip rfl rfl ?_
                    refine awl_skip rfl rfl ?_
                    refine awl_skip rfl rfl ?_
                    refine awl_skip rfl rfl ?_
                    refine awl_skip rfl rfl ?_
                    refine awl_skip rfl rfl ?_
                    refine awl_val hτ rfl rfl rfl ?_
                    refine awl_nil ?_
                    refine aw_weak (weak_ofP [0, 1, 2, 3, 4] (l := [(5, .ptr 0 0), (6, .row 2 x136.length 0 x136.length), (8, .row 3 v203.length 0 v203.length), (9, .row 4 v204.length 0 v204.length), (16, .d (.int .i64 v341)), (17, .d (.int .i64 v342)), (18, .d (.int .i64 v343)), (19, .d (.int .i64 v344)), (20, .d (.int .i64 x374.1)), (22, .d (.int .i64 x375.1)), (108, .d (.int .i64 (x135.Buses.length : Int))), (109, .d (.int .i64 v344)), (147, .d (.bool true))]) (objs := [.box [.d (.cx .f32 x135.Source.A.re x135.Source.A.im), .d (.cx .f32 x135.Source.B.re x135.Source.B.im), .d (.cx .f32 x135.Source.C.re x135.Source.C.im), .row 1 x135.Buses.length 0 x135.Buses.length], .row 8 (x135.Buses.map eSBus), .row 3 (x136.map eSOutage), .row 1 (v203.map eInti64), .row 1 (v204.map eInti64)]) rfl (by simp) rfl (by repeat' first | exact trivial | refine ⟨?_, ?_⟩) ⟨rfl, trivial, rfl, trivial, rfl, trivial, rfl, trivial, rfl, trivial, rfl, trivial, rfl, trivial, rfl, trivial, rfl, trivial, rfl, trivial, rfl, trivial, rfl, trivial, rfl, trivial, trivial⟩) ?_
                    exact hk392 true h
                  · have hb394 := not_f hb394
                    have h := if_bt h hb394
                    refine awl_val hτ rfl rfl rfl ?_
                    refine awl_val hτ rfl rfl rfl ?_
                    refine awl_val hτ rfl rfl rfl ?_
                    refine bnd_elim h fun x395 hx395 h => ?_
                    refine awl_need hτ rfl rfl rfl (row_need hx395) ?_
                    refine awl_elem hτ rfl rfl rfl (len_map _) (row_get hx395) rfl ?_
                    refine awl_weak (weak_ofP [0, 1, 2, 3, 4] (l := [(5, .ptr 0 0), (6, .row 2 x136.length 0 x136.length), (8, .row 3 v203.length 0 v203.length), (9, .row 4 v204.length 0 v204.length), (16, .d (.int .i64 v341)), (17, .d (.int .i64 v342)), (18, .d (.int .i64 v343)), (19, .d (.int .i64 v344)), (20, .d (.int .i64 x374.1)), (22, .d (.int .i64 x375.1)), (108, .d (.int .i64 (x135.Buses.length : Int))), (109, .d (.int .i64 v344)), (132, .d (.bool false)), (133, .d (.int .i64 x374.1)), (137, .d (.int .i64 x395))]) (objs := [.box [.d (.cx .f32 x135.Source.A.re x135.Source.A.im), .d (.cx .f32 x135.Source.B.re x135.Source.B.im), .d (.cx .f32 x135.Source.C.re x135.Source.C.im), .row 1 x135.Buses.length 0 x135.Buses.length], .row 8 (x135.Buses.map eSBus), .row 3 (x136.map eSOutage), .row 1 (v203.map eInti64), .row 1 (v204.map eInti64)]) rfl (by simp) rfl (by repeat' first | exact trivial | refine ⟨?_, ?_⟩) ⟨rfl, trivial, rfl, trivial, rfl, trivial, rfl, trivial, rfl, trivial, rfl, trivial, rfl, trivial, rfl, trivial, rfl, trivial, rfl, trivial, rfl, trivial, rfl, trivial, rfl, trivial, rfl, trivial, rfl, trivial, trivial⟩) ?_
                    refine awl_val hτ (v := .d (.bool (!(decide (x374.1 = x395))))) rfl rfl (or_ine _ _) ?_
                    refine awl_val hτ rfl rfl rfl ?_
                    refine awl_val hτ rfl rfl rfl ?_
                    refine awl_split 140 rfl (fun hb396 => ?_) (fun hb396 => ?_)
                    · have hb396 := not_t hb396
                      have h := if_f h hb396
                      refine awl_skip rfl rfl ?_
                      refine awl_skip rfl rfl ?_
                      refine awl_skip rfl rfl ?_
                      refine awl_skip rfl rfl ?_
                      refine awl_skip rfl rfl ?_
                      refine awl_skip rfl rfl ?_
                      refine awl_val hτ rfl rfl rfl ?_
                      refine awl_nil ?_
                      refine aw_weak (weak_ofP [0, 1, 2, 3, 4] (l := [(5, .ptr 0 0), (6, .row 2 x136.length 0 x136.length), (8, .row 3 v203.length 0 v203.length), (9, .row 4 v204.length 0 v204.length), (16, .d (.int .i64 v341)), (17, .d (.int .i64 v342)), (18, .d (.int .i64 v343)), (19, .d (.int .i64 v344)), (20, .d (.int .i64 x374.1)), (22, .d (.int .i64 x375.1)), (108, .d (.int .i64 (x135.Buses.length : Int))), (109, .d (.int .i64 v344)), (147, .d (.bool true))]) (objs := [.box [.d (.cx .f32 x135.Source.A.re x135.Source.A.im), .d (.cx .f32 x135.Source.B.re x135.Source.B.im), .d (.cx .f32 x135.Source.C.re x135.Source.C.im), .row 1 x135.Buses.length 0 x135.Buses.length], .row 8 (x135.Buses.map eSBus), .row 3 (x136.map eSOutage), .row 1 (v203.map eInti64), .row 1 (v204.map eInti64)]) rfl (by simp) rfl (by repeat' first | exact trivial | refine ⟨?_, ?_⟩) ⟨rfl, trivial, rfl, trivial, rfl, trivial, rfl, trivial, rfl, trivial, rfl, trivial, rfl, trivial, rfl, trivial, rfl, trivial, rfl, trivial, rfl, trivial, rfl, trivial, rfl, trivial, trivial⟩) ?_
                      exact hk392 true h
                    · have hb396 := not_f hb396
                      have h := if_t h hb396
                      refine awl_val hτ rfl rfl rfl ?_
                      refine awl_val hτ rfl rfl rfl ?_
                      refine awl_val hτ rfl rfl rfl ?_
                      refine bnd_elim h fun x397 hx397 h => ?_
                      refine awl_need hτ rfl rfl rfl (row_need hx397) ?_
                      refine awl_elem hτ rfl rfl rfl (len_map _) (row_get hx397) rfl ?_
                      refine awl_val hτ (v := .d (.bool (!(decide (x375.1 = x397))))) rfl rfl (or_ine _ _) ?_
                      refine awl_val hτ rfl rfl rfl ?_
                      refine awl_nil ?_
                      refine aw_weak (weak_ofP [0, 1, 2, 3, 4] (l := [(5, .ptr 0 0), (6, .row 2 x136.length 0 x136.length), (8, .row 3 v203.length 0 v203.length), (9, .row 4 v204.length 0 v204.length), (16, .d (.int .i64 v341)), (17, .d (.int .i64 v342)), (18, .d (.int .i64 v343)), (19, .d (.int .i64 v344)), (20, .d (.int .i64 x374.1)), (22, .d (.int .i64 x375.1)), (108, .d (.int .i64 (x135.Buses.length : Int))), (109, .d (.int .i64 v344)), (147, .d (.bool (!(decide (x375.1 = x397)))))]) (objs := [.box [.d (.cx .f32 x135.Source.A.re x135.Source.A.im), .d (.cx .f32 x135.Source.B.re x135.Source.B.im), .d (.cx .f32 x135.Source.C.re x135.Source.C.im), .row 1 x135.Buses.length 0 x135.Buses.length], .row 8 (x135.Buses.map eSBus), .row 3 (x136.map eSOutage), .row 1 (v203.map eInti64), .row 1 (v204.map eInti64)]) rfl (by simp) rfl (by repeat' first | exact trivial | refine ⟨?_, ?_⟩) ⟨rfl, trivial, rfl, trivial, rfl, trivial, rfl, trivial, rfl, trivial, rfl, trivial, rfl, trivial, rfl, trivial, rfl, trivial, rfl, trivial, rfl, trivial, rfl, trivial, rfl, trivial, trivial⟩) ?_
                      exact hk392 (!(decide (x375.1 = x397))) h
        · have h := if_f h hc360
          refine aw_exit ?_
          refine aw_weak (weak_ofP [0, 1, 2] (l := [(5, .ptr 0 0), (6, .row 2 x136.length 0 x136.length), (16, .d (.int .i64 v341)), (17, .d (.int .i64 v342)), (18, .d (.int .i64 v343))]) (objs := [.box [.d (.cx .f32 x135.Source.A.re x135.Source.A.im), .d (.cx .f32 x135.Source.B.re x135.Source.B.im), .d (.cx .f32 x135.Source.C.re x135.Source.C.im), .row 1 x135.Buses.length 0 x135.Buses.length], .row 8 (x135.Buses.map eSBus), .row 3 (x136.map eSOutage)]) rfl (by simp) rfl (by repeat' first | exact trivial | refine ⟨?_, ?_⟩) ⟨rfl, trivial, rfl, trivial, rfl, trivial, rfl, trivial, rfl, trivial, trivial⟩) ?_
          exact hk331 (v341, v342, v343) h
    · refine aw_seq ?_
      refine aw_seq ?_
      refine aw_region ?_
      refine awl_val hτ rfl rfl rfl ?_
      refine awl_nil ?_
      refine aw_block ?_
      refine aw_loop (ι := Nat × List Int × List Int × List Bool × Int) (fun (m462, v426, v427, v428, v429) => St.of [(5, .ptr 0 0), (6, .row 2 x136.length 0 x136.length), (8, .row 3 v426.length 0 v426.length), (9, .row 4 v427.length 0 v427.length), (10, .row 5 v428.length 0 v428.length), (11, .d (.int .i64 v429))] [.box [.d (.cx .f32 x135.Source.A.re x135.Source.A.im), .d (.cx .f32 x135.Source.B.re x135.Source.B.im), .d (.cx .f32 x135.Source.C.re x135.Source.C.im), .row 1 x135.Buses.length 0 x135.Buses.length], .row 8 (x135.Buses.map eSBus), .row 3 (x136.map eSOutage), .row 1 (v426.map eInti64), .row 1 (v427.map eInti64), .row 1 (v428.map eBool)] f9.ntmps 0) (fun (m462, v426, v427, v428, v429) => m_laws_FnDark_l14 n x135 x136 m462 v426 v427 v428 v429 = some r) (fun x => x.1) (n, (List.replicate (x135.Buses.length : Int).toNat (0 : Int)), (List.replicate (x135.Buses.length : Int).toNat (0 : Int)), (List.replicate (x135.Buses.length : Int).toNat false), (0 : Int)) h (weak_ofP [0, 1, 2, 3, 4, 5] (l := [(5, .ptr 0 0), (6, .row 2 x136.length 0 x136.length), (8, .row 3 ((List.replicate (x135.Buses.length : Int).toNat (0 : Int)).length) 0 ((List.replicate (x135.Buses.length : Int).toNat (0 : Int)).length)), (9, .row 4 ((List.replicate (x135.Buses.length : Int).toNat (0 : Int)).length) 0 ((List.replicate (x135.Buses.length : Int).toNat (0 : Int)).length)), (10, .row 5 ((List.replicate (x135.Buses.length : Int).toNat false).length) 0 ((List.replicate (x135.Buses.length : Int).toNat false).length)), (11, .d (.int .i64 (0 : Int)))]) (objs := [.box [.d (.cx .f32 x135.Source.A.re x135.Source.A.im), .d (.cx .f32 x135.Source.B.re x135.Source.B.im), .d (.cx .f32 x135.Source.C.re x135.Source.C.im), .row 1 x135.Buses.length 0 x135.Buses.length], .row 8 (x135.Buses.map eSBus), .row 3 (x136.map eSOutage), .row 1 ((List.replicate (x135.Buses.length : Int).toNat (0 : Int)).map eInti64), .row 1 ((List.replicate (x135.Buses.length : Int).toNat (0 : Int)).map eInti64), .row 1 ((List.replicate (x135.Buses.length : Int).toNat false).map eBool)]) rfl (by simp) rfl (by repeat' first | exact trivial | refine ⟨?_, ?_⟩) ⟨rfl, trivial, rfl, trivial, rfl, trivial, rfl, trivial, rfl, trivial, rfl, trivial, trivial⟩) ?_
      rintro ⟨m462, v426, v427, v428, v429⟩ h
      replace h : m_laws_FnDark_l14 n x135 x136 m462 v426 v427 v428 v429 = some r := h
      rcases m462 with _ | m462
      · rw [m_laws_FnDark_l14] at h; cases h
      rw [m_laws_FnDark_l14] at h
      refine aw_seq ?_
      refine aw_seq ?_
      refine aw_region ?_
      refine awl_val hτ rfl rfl rfl ?_
      refine awl_val hτ rfl rfl rfl ?_
      refine awl_nil ?_
      refine aw_cond rfl (fun hc464 => ?_) (fun hc464 => ?_)
      · have h := if_t h hc464
        refine aw_skip ?_
        refine aw_hk1 (ι := List Int × List Int × List Bool) (fun (v493, v494, v495) => St.of [(5, .ptr 0 0), (6, .row 2 x136.length 0 x136.length), (8, .row 3 v493.length 0 v493.length), (9, .row 4 v494.length 0 v494.length), (10, .row 5 v495.length 0 v495.length), (11, .d (.int .i64 v429))] [.box [.d (.cx .f32 x135.Source.A.re x135.Source.A.im), .d (.cx .f32 x135.Source.B.re x135.Source.B.im), .d (.cx .f32 x135.Source.C.re x135.Source.C.im), .row 1 x135.Buses.length 0 x135.Buses.length], .row 8 (x135.Buses.map eSBus), .row 3 (x136.map eSOutage), .row 1 (v493.map eInti64), .row 1 (v494.map eInti64), .row 1 (v495.map eBool)] f9.ntmps 0) (fun (v493, v494, v495) => m_laws_FnDark_j15 n (m_laws_FnDark_l14 n x135 x136 m462) v429 v493 v494 v495 = some r) ?_ (fun hk496 => ?_)
        · rintro ⟨v493, v494, v495⟩ h
          replace h : m_laws_FnDark_j15 n (m_laws_FnDark_l14 n x135 x136 m462) v429 v493 v494 v495 = some r := h
          unfold m_laws_FnDark_j15 at h
          refine aw_region ?_
          refine awl_val hτ rfl rfl rfl ?_
          refine awl_val hτ rfl rfl rfl ?_
          refine awl_val hτ rfl rfl rfl ?_
          refine awl_nil ?_
          exact ⟨(m462, v493, v494, v495, (w64 (v429 + (1 : Int)))), h, Nat.lt_succ_self m462, (weak_ofP [0, 1, 2, 3, 4, 5] (l := [(5, .ptr 0 0), (6, .row 2 x136.length 0 x136.length), (8, .row 3 v493.length 0 v493.length), (9, .row 4 v494.length 0 v494.length), (10, .row 5 v495.length 0 v495.length), (11, .d (.int .i64 (w64 (v429 + (1 : Int)))))]) (objs := [.box [.d (.cx .f32 x135.Source.A.re x135.Source.A.im), .d (.cx .f32 x135.Source.B.re x135.Source.B.im), .d (.cx .f32 x135.Source.C.re x135.Source.C.im), .row 1 x135.Buses.length 0 x135.Buses.length], .row 8 (x135.Buses.map eSBus), .row 3 (x136.map eSOutage), .row 1 (v493.map eInti64), .row 1 (v494.map eInti64), .row 1 (v495.map eBool)]) rfl (by simp) rfl (by repeat' first | exact trivial | refine ⟨?_, ?_⟩) ⟨rfl, trivial, rfl, trivial, rfl, trivial, rfl, trivial, rfl, trivial, rfl, trivial, trivial⟩)⟩
        · refine aw_seq ?_
          refine aw_block ?_
          refine aw_seq ?_
          refine aw_region ?_
          refine awl_val hτ rfl rfl rfl ?_
          refine awl_val hτ rfl rfl rfl ?_
          refine awl_val hτ rfl rfl rfl ?_
          refine awl_weak (weak_ofP [0, 1, 2, 3, 4, 5] (l := [(5, .ptr 0 0), (6, .row 2 x136.length 0 x136.length), (8, .row 3 v426.length 0 v426.length), (9, .row 4 v427.length 0 v427.length), (10, .row 5 v428.length 0 v428.length), (11, .d (.int .i64 v429)), (62, .agg [.d (.cx .f32 x135.Source.A.re x135.Source.A.im), .d (.cx .f32 x135.Source.B.re x135.Source.B.im), .d (.cx .f32 x135.Source.C.re x135.Source.C.im), .row 1 x135.Buses.length 0 x135.Buses.length]), (63, .row 2 x136.length 0 x136.length), (64, .d (.int .i64 v429))]) (objs := [.box [.d (.cx .f32 x135.Source.A.re x135.Source.A.im), .d (.cx .f32 x135.Source.B.re x135.Source.B.im), .d (.cx .f32 x135.Source.C.re x135.Source.C.im), .row 1 x135.Buses.length 0 x135.Buses.length], .row 8 (x135.Buses.map eSBus), .row 3 (x136.map eSOutage), .row 1 (v426.map eInti64), .row 1 (v427.map eInti64), .row 1 (v428.map eBool)]) rfl (by simp) rfl (by repeat' first | exact trivial | refine ⟨?_, ?_⟩) ⟨rfl, trivial, rfl, trivial, rfl, trivial, rfl, trivial, rfl, trivial, rfl, trivial, rfl, (by repeat' first | exact trivial | refine ⟨?_, ?_⟩), rfl, trivial, rfl, trivial, trivial⟩) ?_
          refine bnd_elim h fun x497 hx497 h => ?_
          refine awl_callP hτ true [] rfl rfl rfl (enterOk func74 rfl rfl) (mapO_cons (exV_agg (mapO_cons rfl (mapO_cons rfl (mapO_cons rfl (mapO_cons (exC_view (f := eSBus) x135.Buses rfl rfl rfl) mapO_nil))))) (mapO_cons (exV_view (f := eSOutage) x136 rfl rfl rfl) (mapO_cons rfl mapO_nil))) rfl (by simp) ⟨⟨trivial, trivial, trivial, (exP_view (f := eSBus) x135.Buses rfl rfl rfl)⟩, (exVP_view (f := eSOutage) x136 rfl rfl rfl), trivial, trivial⟩ (by repeat' first | exact trivial | refine ⟨?_, ?_⟩) (impl_DarkBuses_ok_fr n (SFeeder.mk x135.Source x135.Buses) x136 v429 hx497) ?_
          rintro r0 o0 n0 ⟨rfl, rfl, rfl⟩ -
          refine awl_val hτ rfl rfl rfl ?_
          refine awl_val hτ rfl rfl rfl ?_
          refine awl_val hτ rfl rfl rfl ?_
          refine awl_val hτ rfl rfl rfl ?_
          refine awl_val hτ rfl rfl rfl ?_
          refine awl_nil ?_
          refine aw_hk1 (ι := Unit) (fun _ => St.of [(5, .ptr 0 0), (6, .row 2 x136.length 0 x136.length), (8, .row 3 v426.length 0 v426.length), (9, .row 4 v427.length 0 v427.length), (10, .row 5 v428.length 0 v428.length), (11, .d (.int .i64 v429)), (12, .row 6 x497.1.length 0 x497.1.length)] [.box [.d (.cx .f32 x135.Source.A.re x135.Source.A.im), .d (.cx .f32 x135.Source.B.re x135.Source.B.im), .d (.cx .f32 x135.Source.C.re x135.Source.C.im), .row 1 x135.Buses.length 0 x135.Buses.length], .row 8 (x135.Buses.map eSBus), .row 3 (x136.map eSOutage), .row 1 (v426.map eInti64), .row 1 (v427.map eInti64), .row 1 (v428.map eBool), .row 1 (x497.1.map eInti64)] f9.ntmps 0) (fun _ => m_laws_FnDark_j16 n x135 (m_laws_FnDark_l14 n x135 x136 m462) v426 v427 v428 v429 x497 = some r) ?_ (fun hk556 => ?_)
          · rintro ⟨⟩ h
            replace h : m_laws_FnDark_j16 n x135 (m_laws_FnDark_l14 n x135 x136 m462) v426 v427 v428 v429 x497 = some r := h
            unfold m_laws_FnDark_j16 at h
            refine aw_seq ?_
            refine aw_region ?_
            refine awl_val hτ rfl rfl rfl ?_
            refine awl_val hτ rfl rfl rfl ?_
            refine awl_need hτ rfl rfl rfl (len_map _) ?_
            refine awl_val hτ rfl rfl rfl ?_
            refine awl_nil ?_
            refine aw_block ?_
            refine aw_loop (ι := Nat × List Int × List Int × List Bool × Int) (fun (m525, v509, v510, v511, v512) => St.of [(5, .ptr 0 0), (6, .row 2 x136.length 0 x136.length), (8, .row 3 v509.length 0 v509.length), (9, .row 4 v510.length 0 v510.length), (10, .row 5 v511.length 0 v511.length), (11, .d (.int .i64 v429)), (12, .row 6 x497.1.length 0 x497.1.length), (76, .d (.int .i64 (x135.Buses.length : Int))), (77, .d (.int .i64 v512))] [.box [.d (.cx .f32 x135.Source.A.re x135.Source.A.im), .d (.cx .f32 x135.Source.B.re x135.Source.B.im), .d (.cx .f32 x135.Source.C.re x135.Source.C.im), .row 1 x135.Buses.length 0 x135.Buses.length], .row 8 (x135.Buses.map eSBus), .row 3 (x136.map eSOutage), .row 1 (v509.map eInti64), .row 1 (v510.map eInti64), .row 1 (v511.map eBool), .row 1 (x497.1.map eInti64)] f9.ntmps 0) (fun (m525, v509, v510, v511, v512) => m_laws_FnDark_l17 n x135 (m_laws_FnDark_l14 n x135 x136 m462) v429 x497 m525 v509 v510 v511 v512 = some r) (fun x => x.1) (n, v426, v427, v428, (0 : Int)) h (weak_ofP [0, 1, 2, 3, 4, 5, 6] (l := [(5, .ptr 0 0), (6, .row 2 x136.length 0 x136.length), (8, .row 3 v426.length 0 v426.length), (9, .row 4 v427.length 0 v427.length), (10, .row 5 v428.length 0 v428.length), (11, .d (.int .i64 v429)), (12, .row 6 x497.1.length 0 x497.1.length), (76, .d (.int .i64 (x135.Buses.length : Int))), (77, .d (.int .i64 (0 : Int)))]) (objs := [.box [.d (.cx .f32 x135.Source.A.re x135.Source.A.im), .d (.cx .f32 x135.Source.B.re x135.Source.B.im), .d (.cx .f32 x135.Source.C.re x135.Source.C.im), .row 1 x135.Buses.length 0 x135.Buses.length], .row 8 (x135.Buses.map eSBus), .row 3 (x136.map eSOutage), .row 1 (v426.map eInti64), .row 1 (v427.map eInti64), .row 1 (v428.map eBool), .row 1 (x497.1.map eInti64)]) rfl (by simp) rfl (by repeat' first | exact trivial | refine ⟨?_, ?_⟩) ⟨rfl, trivial, rfl, trivial, rfl, trivial, rfl, trivial, rfl, trivial, rfl, trivial, rfl, trivial, rfl, trivial, rfl, trivial, trivial⟩) ?_
            rintro ⟨m525, v509, v510, v511, v512⟩ h
            replace h : m_laws_FnDark_l17 n x135 (m_laws_FnDark_l14 n x135 x136 m462) v429 x497 m525 v509 v510 v511 v512 = some r := h
            rcases m525 with _ | m525
            · rw [m_laws_FnDark_l17] at h; cases h
            rw [m_laws_FnDark_l17] at h
            refine aw_seq ?_
            refine aw_region ?_
            refine awl_val hτ rfl rfl rfl ?_
            refine awl_nil ?_
            refine aw_seq ?_
            refine aw_cond rfl (fun hc527 => ?_) (fun hc527 => ?_)
            · have h := if_t h hc527
              refine aw_skip ?_
              refine aw_hk1 (ι := List Int × List Int × List Bool) (fun (v536, v537, v538) => St.of [(5, .ptr 0 0), (6, .row 2 x136.length 0 x136.length), (8, .row 3 v536.length 0 v536.length), (9, .row 4 v537.length 0 v537.length), (10, .row 5 v538.length 0 v538.length), (11, .d (.int .i64 v429)), (12, .row 6 x497.1.length 0 x497.1.length), (76, .d (.int .i64 (x135.Buses.length : Int))), (77, .d (.int .i64 v512))] [.box [.d (.cx .f32 x135.Source.A.re x135.Source.A.im), .d (.cx .f32 x135.Source.B.re x135.Source.B.im), .d (.cx .f32 x135.Source.C.re x135.Source.C.im), .row 1 x135.Buses.length 0 x135.Buses.length], .row 8 (x135.Buses.map eSBus), .row 3 (x136.map eSOutage), .row 1 (v536.map eInti64), .row 1 (v537.map eInti64), .row 1 (v538.map eBool), .row 1 (x497.1.map eInti64)] f9.ntmps 0) (fun (v536, v537, v538) => m_laws_FnDark_j18 n (m_laws_FnDark_l17 n x135 (m_laws_FnDark_l14 n x135 x136 m462) v429 x497 m525) v512 v536 v537 v538 = some r) ?_ (fun hk539 => ?_)
              · rintro ⟨v536, v537, v538⟩ h
                replace h : m_laws_FnDark_j18 n (m_laws_FnDark_l17 n x135 (m_laws_FnDark_l14 n x135 x136 m462) v429 x497 m525) v512 v536 v537 v538 = some r := h
                unfold m_laws_FnDark_j18 at h
                refine aw_region ?_
                refine awl_val hτ rfl rfl rfl ?_
                refine awl_val hτ rfl rfl rfl ?_
                refine awl_nil ?_
                exact ⟨(m525, v536, v537, v538, (w64 (v512 + (1 : Int)))), h, Nat.lt_succ_self m525, (weak_ofP [0, 1, 2, 3, 4, 5, 6] (l := [(5, .ptr 0 0), (6, .row 2 x136.length 0 x136.length), (8, .row 3 v536.length 0 v536.length), (9, .row 4 v537.length 0 v537.length), (10, .row 5 v538.length 0 v538.length), (11, .d (.int .i64 v429)), (12, .row 6 x497.1.length 0 x497.1.length), (76, .d (.int .i64 (x135.Buses.length : Int))), (77, .d (.int .i64 (w64 (v512 + (1 : Int)))))]) (objs := [.box [.d (.cx .f32 x135.Source.A.re x135.Source.A.im), .d (.cx .f32 x135.Source.B.re x135.Source.B.im), .d (.cx .f32 x135.Source.C.re x135.Source.C.im), .row 1 x135.Buses.length 0 x135.Buses.length], .row 8 (x135.Buses.map eSBus), .row 3 (x136.map eSOutage), .row 1 (v536.map eInti64), .row 1 (v537.map eInti64), .row 1 (v538.map eBool), .row 1 (x497.1.map eInti64)]) rfl (by simp) rfl (by repeat' first | exact trivial | refine ⟨?_, ?_⟩) ⟨rfl, trivial, rfl, trivial, rfl, trivial, rfl, trivial, rfl, trivial, rfl, trivial, rfl, trivial, rfl, trivial, rfl, trivial, trivial⟩)⟩
              · refine aw_seq ?_
                refine aw_block ?_
                refine aw_seq ?_
                refine aw_region ?_
                refine awl_val hτ rfl rfl rfl ?_
                refine awl_val hτ rfl rfl rfl ?_
                refine awl_nil ?_
                refine aw_seq ?_
                refine aw_region ?_
                refine awl_val hτ rfl rfl rfl ?_
                refine awl_val hτ rfl rfl rfl ?_
                refine awl_weak (weak_ofP [0, 1, 2, 3, 4, 5, 6] (l := [(5, .ptr 0 0), (6, .row 2 x136.length 0 x136.length), (8, .row 3 v509.length 0 v509.length), (9, .row 4 v510.length 0 v510.length), (10, .row 5 v511.length 0 v511.length), (11, .d (.int .i64 v429)), (12, .row 6 x497.1.length 0 x497.1.length), (14, .d (.int .i64 v512)), (76, .d (.int .i64 (x135.Buses.length : Int))), (77, .d (.int .i64 v512)), (80, .row 6 x497.1.length 0 x497.1.length), (81, .d (.int .i64 v512))]) (objs := [.box [.d (.cx .f32 x135.Source.A.re x135.Source.A.im), .d (.cx .f32 x135.Source.B.re x135.Source.B.im), .d (.cx .f32 x135.Source.C.re x135.Source.C.im), .row 1 x135.Buses.length 0 x135.Buses.length], .row 8 (x135.Buses.map eSBus), .row 3 (x136.map eSOutage), .row 1 (v509.map eInti64), .row 1 (v510.map eInti64), .row 1 (v511.map eBool), .row 1 (x497.1.map eInti64)]) rfl (by simp) rfl (by repeat' first | exact trivial | refine ⟨?_, ?_⟩) ⟨rfl, trivial, rfl, trivial, rfl, trivial, rfl, trivial, rfl, trivial, rfl, trivial, rfl, trivial, rfl, trivial, rfl, trivial, rfl, trivial, rfl, trivial, rfl, trivial, trivial⟩) ?_
                refine bnd_elim h fun x540 hx540 h => ?_
                refine awl_callP hτ true [] rfl rfl rfl (enterOk func49 rfl rfl) (mapO_cons (exV_view (f := eInti64) x497.1 rfl rfl rfl) (mapO_cons rfl mapO_nil)) rfl (by simp) ⟨(exVP_view (f := eInti64) x497.1 rfl rfl rfl), trivial, trivial⟩ (by repeat' first | exact trivial | refine ⟨?_, ?_⟩) (laws_b10Has_ok_fr n x497.1 v512 hx540) ?_
                rintro r0 o0 n0 ⟨rfl, rfl, rfl⟩ -
                refine awl_val hτ rfl rfl rfl ?_
                refine awl_nil ?_
                refine aw_hk1 (ι := List Int × List Int) (fun (v547, v548) => St.of [(5, .ptr 0 0), (6, .row 2 x136.length 0 x136.length), (8, .row 3 v547.length 0 v547.length), (9, .row 4 v548.length 0 v548.length), (10, .row 5 v511.length 0 v511.length), (11, .d (.int .i64 v429)), (12, .row 6 x497.1.length 0 x497.1.length), (14, .d (.int .i64 v512)), (15, .d (.bool x540)), (76, .d (.int .i64 (x135.Buses.length : Int))), (77, .d (.int .i64 v512))] [.box [.d (.cx .f32 x135.Source.A.re x135.Source.A.im), .d (.cx .f32 x135.Source.B.re x135.Source.B.im), .d (.cx .f32 x135.Source.C.re x135.Source.C.im), .row 1 x135.Buses.length 0 x135.Buses.length], .row 8 (x135.Buses.map eSBus), .row 3 (x136.map eSOutage), .row 1 (v547.map eInti64), .row 1 (v548.map eInti64), .row 1 (v511.map eBool), .row 1 (x497.1.map eInti64)] f9.ntmps 0) (fun (v547, v548) => m_laws_FnDark_j19 n (m_laws_FnDark_l17 n x135 (m_laws_FnDark_l14 n x135 x136 m462) v429 x497 m525) v511 v512 x540 v547 v548 = some r) ?_ (fun hk550 => ?_)
                · rintro ⟨v547, v548⟩ h
                  replace h : m_laws_FnDark_j19 n (m_laws_FnDark_l17 n x135 (m_laws_FnDark_l14 n x135 x136 m462) v429 x497 m525) v511 v512 x540 v547 v548 = some r := h
                  unfold m_laws_FnDark_j19 at h
                  refine aw_region ?_
                  refine awl_val hτ rfl rfl rfl ?_
                  refine awl_val hτ rfl rfl rfl ?_
                  refine awl_val hτ rfl rfl rfl ?_
                  refine bnd_elim h fun x549 hx549 h => ?_
                  refine awl_need hτ rfl rfl rfl (row_need hx549) ?_
                  refine awl_elemH hτ rfl rfl rfl (len_map _) (row_get hx549) (set_val (f := eBool) (l := v511) (i := v512) (y := x540) rfl) ?_
                  refine awl_nil ?_
                  refine aw_weak (weak_ofP [0, 1, 2, 3, 4, 5, 6] (l := [(5, .ptr 0 0), (6, .row 2 x136.length 0 x136.length), (8, .row 3 v547.length 0 v547.length), (9, .row 4 v548.length 0 v548.length), (10, .row 5 ((v511.set v512.toNat x540).length) 0 ((v511.set v512.toNat x540).length)), (11, .d (.int .i64 v429)), (12, .row 6 x497.1.length 0 x497.1.length), (76, .d (.int .i64 (x135.Buses.length : Int))), (77, .d (.int .i64 v512))]) (objs := [.box [.d (.cx .f32 x135.Source.A.re x135.Source.A.im), .d (.cx .f32 x135.Source.B.re x135.Source.B.im), .d (.cx .f32 x135.Source.C.re x135.Source.C.im), .row 1 x135.Buses.length 0 x135.Buses.length], .row 8 (x135.Buses.map eSBus), .row 3 (x136.map eSOutage), .row 1 (v547.map eInti64), .row 1 (v548.map eInti64), .row 1 ((v511.set v512.toNat x540).map eBool), .row 1 (x497.1.map eInti64)]) rfl (by simp) rfl (by repeat' first | exact trivial | refine ⟨?_, ?_⟩) ⟨rfl, trivial, rfl, trivial, rfl, trivial, rfl, trivial, (exV_rowL rfl (by simp)), trivial, rfl, trivial, rfl, trivial, rfl, trivial, rfl, trivial, trivial⟩) ?_
                  exact hk539 (v547, v548, (v511.set v512.toNat x540)) h
                · refine aw_seq ?_
                  refine aw_seq ?_
                  refine aw_region ?_
                  refine awl_val hτ rfl rfl rfl ?_
                  refine awl_nil ?_
                  refine aw_cond rfl (fun hc551 => ?_) (fun hc551 => ?_)
                  · have h := if_bt h hc551
                    refine aw_seq ?_
                    refine aw_region ?_
                    refine awl_val hτ rfl rfl rfl ?_
                    refine awl_val hτ rfl rfl rfl ?_
                    refine bnd_elim h fun x552 hx552 h => ?_
                    refine awl_need hτ rfl rfl rfl (row_need hx552) ?_
                    refine awl_elem hτ rfl rfl rfl (len_map _) (row_get hx552) rfl ?_
                    refine awl_val hτ rfl rfl rfl ?_
                    refine awl_need hτ rfl rfl rfl (row_need hx552) ?_
                    refine awl_elemH hτ rfl rfl rfl (len_map _) (row_get hx552) (set_val (f := eInti64) (l := v509) (i := v512) (y := (w64 (x552 + (1 : Int)))) rfl) ?_
                    refine awl_nil ?_
                    refine aw_seq ?_
                    refine aw_weak (weak_ofP [0, 1, 2, 3, 4, 5, 6] (l := [(5, .ptr 0 0), (6, .row 2 x136.length 0 x136.length), (8, .row 3 ((v509.set v512.toNat (w64 (x552 + (1 : Int)))).length) 0 ((v509.set v512.toNat (w64 (x552 + (1 : Int)))).length)), (9, .row 4 v510.length 0 v510.length), (10, .row 5 v511.length 0 v511.length), (11, .d (.int .i64 v429)), (12, .row 6 x497.1.length 0 x497.1.length), (14, .d (.int .i64 v512)), (15, .d (.bool x540)), (76, .d (.int .i64 (x135.Buses.length : Int))), (77, .d (.int .i64 v512))]) (objs := [.box [.d (.cx .f32 x135.Source.A.re x135.Source.A.im), .d (.cx .f32 x135.Source.B.re x135.Source.B.im), .d (.cx .f32 x135.Source.C.re x135.Source.C.im), .row 1 x135.Buses.length 0 x135.Buses.length], .row 8 (x135.Buses.map eSBus), .row 3 (x136.map eSOutage), .row 1 ((v509.set v512.toNat (w64 (x552 + (1 : Int)))).map eInti64), .row 1 (v510.map eInti64), .row 1 (v511.map eBool), .row 1 (x497.1.map eInti64)]) rfl (by simp) rfl (by repeat' first | exact trivial | refine ⟨?_, ?_⟩) ⟨rfl, trivial, rfl, trivial, (exV_rowL rfl (by simp)), trivial, rfl, trivial, rfl, trivial, rfl, trivial, rfl, trivial, rfl, trivial, rfl, trivial, rfl, trivial, rfl, trivial, trivial⟩) ?_
                    refine aw_region ?_
                    refine awl_val hτ rfl rfl rfl ?_
                    refine awl_val hτ rfl rfl rfl ?_
                    refine bnd_elim h fun x553 hx553 h => ?_
                    refine awl_need hτ rfl rfl rfl (row_need hx553) ?_
                    refine awl_elem hτ rfl rfl rfl (len_map _) (row_get hx553) rfl ?_
                    refine awl_val hτ rfl rfl rfl ?_
                    refine awl_nil ?_
                    refine aw_cond rfl (fun hc554 => ?_) (fun hc554 => ?_)
                    · have hc554 := not_t hc554
                      have h := if_bf h hc554
                      refine aw_region ?_
                      refine awl_val hτ rfl rfl rfl ?_
                      refine awl_val hτ rfl rfl rfl ?_
                      refine bnd_elim h fun x555 hx555 h => ?_
                      refine awl_need hτ rfl rfl rfl (row_need hx555) ?_
                      refine awl_elem hτ rfl rfl rfl (len_map _) (row_get hx555) rfl ?_
                      refine awl_val hτ rfl rfl rfl ?_
                      refine awl_need hτ rfl rfl rfl (row_need hx555) ?_
                      refine awl_elemH hτ rfl rfl rfl (len_map _) (row_get hx555) (set_val (f := eInti64) (l := v510) (i := v512) (y := (w64 (x555 + (1 : Int)))) rfl) ?_
                      refine awl_nil ?_
                      refine aw_weak (weak_ofP [0, 1, 2, 3, 4, 5, 6] (l := [(5, .ptr 0 0), (6, .row 2 x136.length 0 x136.length), (8, .row 3 ((v509.set v512.toNat (w64 (x552 + (1 : Int)))).length) 0 ((v509.set v512.toNat (w64 (x552 + (1 : Int)))).length)), (9, .row 4 ((v510.set v512.toNat (w64 (x555 + (1 : Int)))).length) 0 ((v510.set v512.toNat (w64 (x555 + (1 : Int)))).length)), (10, .row 5 v511.length 0 v511.length), (11, .d (.int .i64 v429)), (12, .row 6 x497.1.length 0 x497.1.length), (14, .d (.int .i64 v512)), (15, .d (.bool x540)), (76, .d (.int .i64 (x135.Buses.length : Int))), (77, .d (.int .i64 v512))]) (objs := [.box [.d (.cx .f32 x135.Source.A.re x135.Source.A.im), .d (.cx .f32 x135.Source.B.re x135.Source.B.im), .d (.cx .f32 x135.Source.C.re x135.Source.C.im), .row 1 x135.Buses.length 0 x135.Buses.length], .row 8 (x135.Buses.map eSBus), .row 3 (x136.map eSOutage), .row 1 ((v509.set v512.toNat (w64 (x552 + (1 : Int)))).map eInti64), .row 1 ((v510.set v512.toNat (w64 (x555 + (1 : Int)))).map eInti64), .row 1 (v511.map eBool), .row 1 (x497.1.map eInti64)]) rfl (by simp) rfl (by repeat' first | exact trivial | refine ⟨?_, ?_⟩) ⟨rfl, trivial, rfl, trivial, rfl, trivial, (exV_rowL rfl (by simp)), trivial, rfl, trivial, rfl, trivial, rfl, trivial, rfl, trivial, rfl, trivial, rfl, trivial, rfl, trivial, trivial⟩) ?_
                      exact hk550 ((v509.set v512.toNat (w64 (x552 + (1 : Int)))), (v510.set v512.toNat (w64 (x555 + (1 : Int))))) h
                    · have hc554 := not_f hc554
                      have h := if_bt h hc554
                      refine aw_skip ?_
                      refine aw_weak (weak_ofP [0, 1, 2, 3, 4, 5, 6] (l := [(5, .ptr 0 0), (6, .row 2 x136.length 0 x136.length), (8, .row 3 ((v509.set v512.toNat (w64 (x552 + (1 : Int)))).length) 0 ((v509.set v512.toNat (w64 (x552 + (1 : Int)))).length)), (9, .row 4 v510.length 0 v510.length), (10, .row 5 v511.length 0 v511.length), (11, .d (.int .i64 v429)), (12, .row 6 x497.1.length 0 x497.1.length), (14, .d (.int .i64 v512)), (15, .d (.bool x540)), (76, .d (.int .i64 (x135.Buses.length : Int))), (77, .d (.int .i64 v512))]) (objs := [.box [.d (.cx .f32 x135.Source.A.re x135.Source.A.im), .d (.cx .f32 x135.Source.B.re x135.Source.B.im), .d (.cx .f32 x135.Source.C.re x135.Source.C.im), .row 1 x135.Buses.length 0 x135.Buses.length], .row 8 (x135.Buses.map eSBus), .row 3 (x136.map eSOutage), .row 1 ((v509.set v512.toNat (w64 (x552 + (1 : Int)))).map eInti64), .row 1 (v510.map eInti64), .row 1 (v511.map eBool), .row 1 (x497.1.map eInti64)]) rfl (by simp) rfl (by repeat' first | exact trivial | refine ⟨?_, ?_⟩) ⟨rfl, trivial, rfl, trivial, rfl, trivial, rfl, trivial, rfl, trivial, rfl, trivial, rfl, trivial, rfl, trivial, rfl, trivial, rfl, trivial, rfl, trivial, trivial⟩) ?_
                      exact hk550 ((v509.set v512.toNat (w64 (x552 + (1 : Int)))), v510) h
                  · have h := if_bf h hc551
                    refine aw_skip ?_
                    refine aw_weak (weak_ofP [0, 1, 2, 3, 4, 5, 6] (l := [(5, .ptr 0 0), (6, .row 2 x136.length 0 x136.length), (8, .row 3 v509.length 0 v509.length), (9, .row 4 v510.length 0 v510.length), (10, .row 5 v511.length 0 v511.length), (11, .d (.int .i64 v429)), (12, .row 6 x497.1.length 0 x497.1.length), (14, .d (.int .i64 v512)), (15, .d (.bool x540)), (76, .d (.int .i64 (x135.Buses.length : Int))), (77, .d (.int .i64 v512))]) (objs := [.box [.d (.cx .f32 x135.Source.A.re x135.Source.A.im), .d (.cx .f32 x135.Source.B.re x135.Source.B.im), .d (.cx .f32 x135.Source.C.re x135.Source.C.im), .row 1 x135.Buses.length 0 x135.Buses.length], .row 8 (x135.Buses.map eSBus), .row 3 (x136.map eSOutage), .row 1 (v509.map eInti64), .row 1 (v510.map eInti64), .row 1 (v511.map eBool), .row 1 (x497.1.map eInti64)]) rfl (by simp) rfl (by repeat' first | exact trivial | refine ⟨?_, ?_⟩) ⟨rfl, trivial, rfl, trivial, rfl, trivial, rfl, trivial, rfl, trivial, rfl, trivial, rfl, trivial, rfl, trivial, rfl, trivial, rfl, trivial, rfl, trivial, trivial⟩) ?_
                    exact hk550 (v509, v510) h
            · have h := if_f h hc527
              refine aw_exit ?_
              refine aw_weak (weak_ofP [0, 1, 2, 3, 4, 5] (l := [(5, .ptr 0 0), (6, .row 2 x136.length 0 x136.length), (8, .row 3 v509.length 0 v509.length), (9, .row 4 v510.length 0 v510.length), (10, .row 5 v511.length 0 v511.length), (11, .d (.int .i64 v429))]) (objs := [.box [.d (.cx .f32 x135.Source.A.re x135.Source.A.im), .d (.cx .f32 x135.Source.B.re x135.Source.B.im), .d (.cx .f32 x135.Source.C.re x135.Source.C.im), .row 1 x135.Buses.length 0 x135.Buses.length], .row 8 (x135.Buses.map eSBus), .row 3 (x136.map eSOutage), .row 1 (v509.map eInti64), .row 1 (v510.map eInti64), .row 1 (v511.map eBool)]) rfl (by simp) rfl (by repeat' first | exact trivial | refine ⟨?_, ?_⟩) ⟨rfl, trivial, rfl, trivial, rfl, trivial, rfl, trivial, rfl, trivial, rfl, trivial, trivial⟩) ?_
              exact hk496 (v509, v510, v511) h
          · refine aw_seq ?_
            refine aw_hk1 (ι := Bool) (fun v560 => St.of [(5, .ptr 0 0), (6, .row 2 x136.length 0 x136.length), (8, .row 3 v426.length 0 v426.length), (9, .row 4 v427.length 0 v427.length), (10, .row 5 v428.length 0 v428.length), (11, .d (.int .i64 v429)), (12, .row 6 x497.1.length 0 x497.1.length), (73, .d (.bool v560))] [.box [.d (.cx .f32 x135.Source.A.re x135.Source.A.im), .d (.cx .f32 x135.Source.B.re x135.Source.B.im), .d (.cx .f32 x135.Source.C.re x135.Source.C.im), .row 1 x135.Buses.length 0 x135.Buses.length], .row 8 (x135.Buses.map eSBus), .row 3 (x136.map eSOutage), .row 1 (v426.map eInti64), .row 1 (v427.map eInti64), .row 1 (v428.map eBool), .row 1 (x497.1.map eInti64)] f9.ntmps 0) (fun v560 => m_laws_FnDark_j20 n x135 (m_laws_FnDark_l14 n x135 x136 m462) v426 v427 v428 v429 x497 v560 = some r) ?_ (fun hk562 => ?_)
            · rintro v560 h
              replace h : m_laws_FnDark_j20 n x135 (m_laws_FnDark_l14 n x135 x136 m462) v426 v427 v428 v429 x497 v560 = some r := h
              unfold m_laws_FnDark_j20 at h
              refine aw_cond rfl (fun hc561 => ?_) (fun hc561 => ?_)
              · have h := if_bt h hc561
                refine aw_seq ?_
                refine aw_region ?_
                refine awl_val hτ rfl rfl rfl ?_
                refine awl_nil ?_
                refine aw_weak (weak_ofP [] (l := [(4, .d (.bool false))]) (objs := []) rfl (by simp) rfl (by repeat' first | exact trivial | refine ⟨?_, ?_⟩) ⟨rfl, trivial, trivial⟩) ?_
                refine aw_ret ?_
                have hr := Option.some.inj h
                subst hr
                exact ret_objs (.inr rfl) [] (objs' := []) (new := []) rfl (by simp) (by simp) rfl (by repeat' first | exact trivial | refine ⟨?_, ?_⟩) rfl rfl (by repeat' first | exact trivial | refine ⟨?_, ?_⟩) (fun _ => ⟨by simp [V.flat, V.flatA, V.flatC, D.flat], flat_nil⟩) ⟨rfl, rfl, rfl⟩
              · have h := if_bf h hc561
                refine aw_skip ?_
                refine aw_weak (weak_ofP [0, 1, 2, 3, 4, 5, 6] (l := [(5, .ptr 0 0), (6, .row 2 x136.length 0 x136.length), (8, .row 3 v426.length 0 v426.length), (9, .row 4 v427.length 0 v427.length), (10, .row 5 v428.length 0 v428.length), (11, .d (.int .i64 v429)), (12, .row 6 x497.1.length 0 x497.1.length)]) (objs := [.box [.d (.cx .f32 x135.Source.A.re x135.Source.A.im), .d (.cx .f32 x135.Source.B.re x135.Source.B.im), .d (.cx .f32 x135.Source.C.re x135.Source.C.im), .row 1 x135.Buses.length 0 x135.Buses.length], .row 8 (x135.Buses.map eSBus), .row 3 (x136.map eSOutage), .row 1 (v426.map eInti64), .row 1 (v427.map eInti64), .row 1 (v428.map eBool), .row 1 (x497.1.map eInti64)]) rfl (by simp) rfl (by repeat' first | exact trivial | refine ⟨?_, ?_⟩) ⟨rfl, trivial, rfl, trivial, rfl, trivial, rfl, trivial, rfl, trivial, rfl, trivial, rfl, trivial, trivial⟩) ?_
                exact hk556 () h
            · refine aw_seq ?_
              refine aw_weak (weak_ofP [0, 1, 2, 3, 4, 5, 6] (l := [(5, .ptr 0 0), (6, .row 2 x136.length 0 x136.length), (8, .row 3 v426.length 0 v426.length), (9, .row 4 v427.length 0 v427.length), (10, .row 5 v428.length 0 v428.length), (11, .d (.int .i64 v429)), (12, .row 6 x497.1.length 0 x497.1.length), (13, .d (.bool x497.2))]) (objs := [.box [.d (.cx .f32 x135.Source.A.re x135.Source.A.im), .d (.cx .f32 x135.Source.B.re x135.Source.B.im), .d (.cx .f32 x135.Source.C.re x135.Source.C.im), .row 1 x135.Buses.length 0 x135.Buses.length], .row 8 (x135.Buses.map eSBus), .row 3 (x136.map eSOutage), .row 1 (v426.map eInti64), .row 1 (v427.map eInti64), .row 1 (v428.map eBool), .row 1 (x497.1.map eInti64)]) rfl (by simp) rfl (by repeat' first | exact trivial | refine ⟨?_, ?_⟩) ⟨rfl, trivial, rfl, trivial, rfl, trivial, rfl, trivial, rfl, trivial, rfl, trivial, rfl, trivial, rfl, trivial, trivial⟩) ?_
              refine aw_region ?_
              refine awl_val hτ rfl rfl rfl ?_
              refine awl_val hτ rfl rfl rfl ?_
              refine awl_val hτ rfl rfl rfl ?_
              refine awl_split 70 rfl (fun hb563 => ?_) (fun hb563 => ?_)
              · have hb563 := not_t hb563
                have h := if_bf h hb563
                refine awl_skip rfl rfl ?_
                refine awl_skip rfl rfl ?_
                refine awl_val hτ rfl rfl rfl ?_
                refine awl_nil ?_
                refine aw_weak (weak_ofP [0, 1, 2, 3, 4, 5, 6] (l := [(5, .ptr 0 0), (6, .row 2 x136.length 0 x136.length), (8, .row 3 v426.length 0 v426.length), (9, .row 4 v427.length 0 v427.length), (10, .row 5 v428.length 0 v428.length), (11, .d (.int .i64 v429)), (12, .row 6 x497.1.length 0 x497.1.length), (73, .d (.bool true))]) (objs := [.box [.d (.cx .f32 x135.Source.A.re x135.Source.A.im), .d (.cx .f32 x135.Source.B.re x135.Source.B.im), .d (.cx .f32 x135.Source.C.re x135.Source.C.im), .row 1 x135.Buses.length 0 x135.Buses.length], .row 8 (x135.Buses.map eSBus), .row 3 (x136.map eSOutage), .row 1 (v426.map eInti64), .row 1 (v427.map eInti64), .row 1 (v428.map eBool), .row 1 (x497.1.map eInti64)]) rfl (by simp) rfl (by repeat' first | exact trivial | refine ⟨?_, ?_⟩) ⟨rfl, trivial, rfl, trivial, rfl, trivial, rfl, trivial, rfl, trivial, rfl, trivial, rfl, trivial, rfl, trivial, trivial⟩) ?_
                exact hk562 true h
              · have hb563 := not_f hb563
                have h := if_bt h hb563
                refine awl_val hτ rfl rfl rfl ?_
                refine awl_weak (weak_ofP [0, 1, 2, 3, 4, 5, 6] (l := [(5, .ptr 0 0), (6, .row 2 x136.length 0 x136.length), (8, .row 3 v426.length 0 v426.length), (9, .row 4 v427.length 0 v427.length), (10, .row 5 v428.length 0 v428.length), (11, .d (.int .i64 v429)), (12, .row 6 x497.1.length 0 x497.1.length), (70, .d (.bool false)), (71, .row 6 x497.1.length 0 x497.1.length)]) (objs := [.box [.d (.cx .f32 x135.Source.A.re x135.Source.A.im), .d (.cx .f32 x135.Source.B.re x135.Source.B.im), .d (.cx .f32 x135.Source.C.re x135.Source.C.im), .row 1 x135.Buses.length 0 x135.Buses.length], .row 8 (x135.Buses.map eSBus), .row 3 (x136.map eSOutage), .row 1 (v426.map eInti64), .row 1 (v427.map eInti64), .row 1 (v428.map eBool), .row 1 (x497.1.map eInti64)]) rfl (by simp) rfl (by repeat' first | exact trivial | refine ⟨?_, ?_⟩) ⟨rfl, trivial, rfl, trivial, rfl, trivial, rfl, trivial, rfl, trivial, rfl, trivial, rfl, trivial, rfl, trivial, rfl, trivial, trivial⟩) ?_
                refine bnd_elim h fun x564 hx564 h => ?_
                refine awl_callP hτ true [] rfl rfl rfl (enterOk func49 rfl rfl) (mapO_cons (exV_view (f := eInti64) x497.1 rfl rfl rfl) (mapO_cons rfl mapO_nil)) rfl (by simp) ⟨(exVP_view (f := eInti64) x497.1 rfl rfl rfl), trivial, trivial⟩ (by repeat' first | exact trivial | refine ⟨?_, ?_⟩) (laws_b10Has_ok_fr n x497.1 (0 : Int) hx564) ?_
                rintro r0 o0 n0 ⟨rfl, rfl, rfl⟩ -
                refine awl_val hτ rfl rfl rfl ?_
                refine awl_nil ?_
                refine aw_weak (weak_ofP [0, 1, 2, 3, 4, 5, 6] (l := [(5, .ptr 0 0), (6, .row 2 x136.length 0 x136.length), (8, .row 3 v426.length 0 v426.length), (9, .row 4 v427.length 0 v427.length), (10, .row 5 v428.length 0 v428.length), (11, .d (.int .i64 v429)), (12, .row 6 x497.1.length 0 x497.1.length), (73, .d (.bool x564))]) (objs := [.box [.d (.cx .f32 x135.Source.A.re x135.Source.A.im), .d (.cx .f32 x135.Source.B.re x135.Source.B.im), .d (.cx .f32 x135.Source.C.re x135.Source.C.im), .row 1 x135.Buses.length 0 x135.Buses.length], .row 8 (x135.Buses.map eSBus), .row 3 (x136.map eSOutage), .row 1 (v426.map eInti64), .row 1 (v427.map eInti64), .row 1 (v428.map eBool), .row 1 (x497.1.map eInti64)]) rfl (by simp) rfl (by repeat' first | exact trivial | refine ⟨?_, ?_⟩) ⟨rfl, trivial, rfl, trivial, rfl, trivial, rfl, trivial, rfl, trivial, rfl, trivial, rfl, trivial, rfl, trivial, trivial⟩) ?_
                exact hk562 x564 h
      · have h := if_f h hc464
        refine aw_exit ?_
        refine aw_weak (weak_ofP [0, 1, 2, 3, 4] (l := [(5, .ptr 0 0), (6, .row 2 x136.length 0 x136.length), (8, .row 3 v426.length 0 v426.length), (9, .row 4 v427.length 0 v427.length)]) (objs := [.box [.d (.cx .f32 x135.Source.A.re x135.Source.A.im), .d (.cx .f32 x135.Source.B.re x135.Source.B.im), .d (.cx .f32 x135.Source.C.re x135.Source.C.im), .row 1 x135.Buses.length 0 x135.Buses.length], .row 8 (x135.Buses.map eSBus), .row 3 (x136.map eSOutage), .row 1 (v426.map eInti64), .row 1 (v427.map eInti64)]) rfl (by simp) rfl (by repeat' first | exact trivial | refine ⟨?_, ?_⟩) ⟨rfl, trivial, rfl, trivial, rfl, trivial, rfl, trivial, trivial⟩) ?_
        exact hk398 (v426, v427) h
theorem laws_FnDark_ok (n : Nat) (code_ : List Int) (more_ : List Int) {r : Bool} (h : m_laws_FnDark n code_ more_ = some r) : ACall prog false 9 [.d (.sl false (code_.map eIntu8)), .d (.sl false (more_.map eIntu8))] [] (fun v o new => v = .d (.bool r) ∧ o = [] ∧ new = []) := laws_FnDark_ok_fr0 false n code_ more_ h
theorem laws_FnDark_ok_fr (n : Nat) (code_ : List Int) (more_ : List Int) {r : Bool} (h : m_laws_FnDark n code_ more_ = some r) : ACall prog true 9 [.d (.sl false (code_.map eIntu8)), .d (.sl false (more_.map eIntu8))] [] (fun v o new => v = .d (.bool r) ∧ o = [] ∧ new = []) := laws_FnDark_ok_fr0 true n code_ more_ h

end Go.Proofs.Ytkagbffdmppbhab.AWN
