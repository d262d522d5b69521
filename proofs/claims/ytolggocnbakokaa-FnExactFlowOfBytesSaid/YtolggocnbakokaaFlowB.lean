/- Models and contracts, printed by program. -/
import Derived.Test.YtolggocnbakokaaFlowA
set_option linter.unusedVariables false
set_option linter.unusedSimpArgs false
set_option linter.unusedSectionVars false
set_option maxHeartbeats 2000000
namespace Go.Proofs.Ytolggocnbakokaa.AWN
open Go Go.Proofs.Try

def m_laws_markFlow (n : Nat) (a_ : SFlow) (k_ : Int) : Option (Int × List SPhases × List SPhases) :=
  (m_laws_markPhasesS n a_.Voltages k_).bind fun x5 =>
  grd (x5.2.length = a_.Voltages.length) <|
  (m_laws_markPhasesS n a_.Currents x5.1).bind fun x7 =>
  grd (x7.2.length = a_.Currents.length) <|
  some (x7.1, x5.2, x7.2)
theorem laws_markFlow_ok_fr0 (fr : Bool) (n : Nat) (a_ : SFlow) (k_ : Int) {r : Int × List SPhases × List SPhases} (h : m_laws_markFlow n a_ k_ = some r) : ACall prog fr 42 [.agg [.row 0 a_.Voltages.length 0 a_.Voltages.length, .row 1 a_.Currents.length 0 a_.Currents.length, .d (.int .i64 a_.Rounds), .d (.bool a_.Rests)], .d (.int .i64 k_)] [.row 3 (a_.Voltages.map eSPhases), .row 3 (a_.Currents.map eSPhases)] (fun v o new => v = .d (.int .i64 r.1) ∧ o = [.row 3 (r.2.1.map eSPhases), .row 3 (r.2.2.map eSPhases)] ∧ new = []) := by
  refine acall_of_aw hτ func42 rfl (by simp) (by simp) ?_
  unfold m_laws_markFlow at h
  refine aw_seq ?_
  refine aw_region ?_
  refine awl_valH hτ rfl rfl rfl ?_
  refine awl_val hτ rfl rfl rfl ?_
  refine awl_nil ?_
  refine aw_seq ?_
  refine aw_region ?_
  refine awl_val hτ rfl rfl rfl ?_
  refine awl_val hτ rfl rfl rfl ?_
  refine awl_val hτ rfl rfl rfl ?_
  refine bnd_elim h fun x5 hx5 h => ?_
  refine awl_callP hτ false [0] rfl rfl rfl (enterOk func86 rfl rfl) rfl rfl (by simp) ⟨trivial, trivial, trivial⟩ (by repeat' first | exact trivial | refine ⟨?_, ?_⟩) (laws_markPhasesS_ok n a_.Voltages k_ hx5) ?_
  rintro r0 o0 n0 ⟨rfl, rfl, rfl⟩ -
  refine grd_elim h fun hg6 h => ?_
  refine awl_val hτ rfl rfl rfl ?_
  refine awl_nil ?_
  refine aw_seq ?_
  refine aw_weak (weak_ofP [0, 1, 2] (l := [(1, .d (.int .i64 x5.1)), (2, .ptr 2 0)]) (objs := [.row 3 (x5.2.map eSPhases), .row 3 (a_.Currents.map eSPhases), .box [.row 0 x5.2.length 0 x5.2.length, .row 1 a_.Currents.length 0 a_.Currents.length, .d (.int .i64 a_.Rounds), .d (.bool a_.Rests)]]) rfl (by simp) (mapO_cons rfl (mapO_cons rfl (mapO_cons (exO_box (mapO_cons (exC_rowL rfl (by simp [hg6])) (mapO_cons rfl (mapO_cons rfl (mapO_cons rfl mapO_nil))))) mapO_nil))) ⟨trivial, trivial, ⟨trivial, trivial, trivial, trivial⟩, trivial⟩ ⟨rfl, trivial, rfl, trivial, trivial⟩) ?_
  refine aw_region ?_
  refine awl_val hτ rfl rfl rfl ?_
  refine awl_val hτ rfl rfl rfl ?_
  refine awl_val hτ rfl rfl rfl ?_
  refine bnd_elim h fun x7 hx7 h => ?_
  refine awl_callP hτ false [1] rfl rfl rfl (enterOk func86 rfl rfl) rfl rfl (by simp) ⟨trivial, trivial, trivial⟩ (by repeat' first | exact trivial | refine ⟨?_, ?_⟩) (laws_markPhasesS_ok n a_.Currents x5.1 hx7) ?_
  rintro r0 o0 n0 ⟨rfl, rfl, rfl⟩ -
  refine grd_elim h fun hg8 h => ?_
  refine awl_val hτ rfl rfl rfl ?_
  refine awl_nil ?_
  refine aw_seq ?_
  refine aw_region ?_
  refine awl_val hτ rfl rfl rfl ?_
  refine awl_val hτ rfl rfl rfl ?_
  refine awl_nil ?_
  refine aw_weak (weak_ofP [0, 1] (l := [(4, .d (.int .i64 x7.1))]) (objs := [.row 3 (x5.2.map eSPhases), .row 3 (x7.2.map eSPhases)]) rfl (by simp) rfl (by repeat' first | exact trivial | refine ⟨?_, ?_⟩) ⟨rfl, trivial, trivial⟩) ?_
  refine aw_ret ?_
  have hr := Option.some.inj h
  subst hr
  exact ret_objs (.inr rfl) [] (objs' := [.row 3 (x5.2.map eSPhases), .row 3 (x7.2.map eSPhases)]) (new := []) rfl (by simp) (by simp) rfl (by repeat' first | exact trivial | refine ⟨?_, ?_⟩) rfl rfl (by repeat' first | exact trivial | refine ⟨?_, ?_⟩) (fun _ => ⟨by simp [V.flat, V.flatA, V.flatC, D.flat], (flat_cons (flat_row eSPhases_flat _) (flat_cons (flat_row eSPhases_flat _) flat_nil))⟩) ⟨rfl, rfl, rfl⟩
theorem laws_markFlow_ok (n : Nat) (a_ : SFlow) (k_ : Int) {r : Int × List SPhases × List SPhases} (h : m_laws_markFlow n a_ k_ = some r) : ACall prog false 42 [.agg [.row 0 a_.Voltages.length 0 a_.Voltages.length, .row 1 a_.Currents.length 0 a_.Currents.length, .d (.int .i64 a_.Rounds), .d (.bool a_.Rests)], .d (.int .i64 k_)] [.row 3 (a_.Voltages.map eSPhases), .row 3 (a_.Currents.map eSPhases)] (fun v o new => v = .d (.int .i64 r.1) ∧ o = [.row 3 (r.2.1.map eSPhases), .row 3 (r.2.2.map eSPhases)] ∧ new = []) := laws_markFlow_ok_fr0 false n a_ k_ h
theorem laws_markFlow_ok_fr (n : Nat) (a_ : SFlow) (k_ : Int) {r : Int × List SPhases × List SPhases} (h : m_laws_markFlow n a_ k_ = some r) : ACall prog true 42 [.agg [.row 0 a_.Voltages.length 0 a_.Voltages.length, .row 1 a_.Currents.length 0 a_.Currents.length, .d (.int .i64 a_.Rounds), .d (.bool a_.Rests)], .d (.int .i64 k_)] [.row 3 (a_.Voltages.map eSPhases), .row 3 (a_.Currents.map eSPhases)] (fun v o new => v = .d (.int .i64 r.1) ∧ o = [.row 3 (r.2.1.map eSPhases), .row 3 (r.2.2.map eSPhases)] ∧ new = []) := laws_markFlow_ok_fr0 true n a_ k_ h

def m_laws_heldPhasesS_l1 (n : Nat) (a_ : List SPhases) : Nat → Int → Int → Option Int
  | 0, _, _ => none
  | m37 + 1, v26, v27 =>
    if v27 < (a_.length : Int) then
      (getI a_ v27).bind fun x50 =>
      (fconv .f64 .f32 (FloatKind.nearest .f64 v26)).bind fun x51 =>
      (fconv .f64 .f32 (4607182418800017408 : Nat)).bind fun x52 =>
      if (fcmp .eql .f32 x50.A.re x51 && fcmp .eql .f32 x50.A.im x52) = true then
        (fconv .f64 .f32 (FloatKind.nearest .f64 (w64 (v26 + (1 : Int))))).bind fun x56 =>
        (fconv .f64 .f32 (4607182418800017408 : Nat)).bind fun x57 =>
        if (fcmp .eql .f32 x50.B.re x56 && fcmp .eql .f32 x50.B.im x57) = true then
          (fconv .f64 .f32 (FloatKind.nearest .f64 (w64 ((w64 (v26 + (1 : Int))) + (1 : Int))))).bind fun x61 =>
          (fconv .f64 .f32 (4607182418800017408 : Nat)).bind fun x62 =>
          if (fcmp .eql .f32 x50.C.re x61 && fcmp .eql .f32 x50.C.im x62) = true then
            (m_laws_heldPhasesS_l1 n a_ m37) (w64 ((w64 ((w64 (v26 + (1 : Int))) + (1 : Int))) + (1 : Int))) (w64 (v27 + (1 : Int)))
          else
            some (-1 : Int)
        else
          some (-1 : Int)
      else
        some (-1 : Int)
    else
      some v26
def m_laws_heldPhasesS (n : Nat) (a_ : List SPhases) (k_ : Int) : Option Int :=
  m_laws_heldPhasesS_l1 n a_ n k_ (0 : Int)
theorem laws_heldPhasesS_ok_fr0 (fr : Bool) (n : Nat) (a_ : List SPhases) (k_ : Int) {r : Int} (h : m_laws_heldPhasesS n a_ k_ = some r) : ACall prog fr 87 [.d (.sl false (a_.map eSPhases)), .d (.int .i64 k_)] [] (fun v o new => v = .d (.int .i64 r) ∧ o = [] ∧ new = []) := by
  refine acall_of_aw hτ func87 rfl (by simp) (by simp) ?_
  unfold m_laws_heldPhasesS at h
  refine aw_seq ?_
  refine aw_region ?_
  refine awl_val hτ rfl rfl rfl ?_
  refine awl_nil ?_
  refine aw_seq ?_
  refine aw_seq ?_
  refine aw_region ?_
  refine awl_val hτ rfl rfl rfl ?_
  refine awl_nil ?_
  refine aw_block ?_
  refine aw_loop (ι := Nat × Int × Int) (fun (m37, v26, v27) => St.of [(0, .d (.sl false (a_.map eSPhases))), (1, .d (.int .i64 v26)), (5, .d (.int .i64 v27))] [] f87.ntmps 0) (fun (m37, v26, v27) => m_laws_heldPhasesS_l1 n a_ m37 v26 v27 = some r) (fun x => x.1) (n, k_, (0 : Int)) h (weak_ofP [] (l := [(0, .d (.sl false (a_.map eSPhases))), (1, .d (.int .i64 k_)), (5, .d (.int .i64 (0 : Int)))]) (objs := []) rfl (by simp) rfl (by repeat' first | exact trivial | refine ⟨?_, ?_⟩) ⟨rfl, trivial, rfl, trivial, rfl, trivial, trivial⟩) ?_
  rintro ⟨m37, v26, v27⟩ h
  replace h : m_laws_heldPhasesS_l1 n a_ m37 v26 v27 = some r := h
  rcases m37 with _ | m37
  · rw [m_laws_heldPhasesS_l1] at h; cases h
  rw [m_laws_heldPhasesS_l1] at h
  refine aw_seq ?_
  refine aw_seq ?_
  refine aw_region ?_
  refine awl_val hτ rfl rfl rfl ?_
  refine awl_val hτ rfl rfl rfl ?_
  refine awl_val hτ (v := .d (.int .i64 (a_.length : Int))) rfl rfl (Eq.trans rfl (or_len (f := eSPhases) a_)) ?_
  refine awl_val hτ rfl rfl rfl ?_
  refine awl_nil ?_
  refine aw_cond rfl (fun hc39 => ?_) (fun hc39 => ?_)
  · have h := if_t h hc39
    refine aw_skip ?_
    refine aw_seq ?_
    refine aw_block ?_
    refine aw_seq ?_
    refine aw_seq ?_
    refine aw_region ?_
    refine awl_val hτ rfl rfl rfl ?_
    refine awl_val hτ rfl rfl rfl ?_
    refine bnd_elim h fun x50 hx50 h => ?_
    refine awl_elem hτ rfl rfl rfl (getI_some hx50).1 (map_getI hx50) rfl ?_
    refine awl_val hτ rfl rfl rfl ?_
    refine awl_val hτ rfl rfl rfl ?_
    refine awl_val hτ rfl rfl rfl ?_
    refine awl_val hτ rfl rfl rfl ?_
    refine awl_val hτ rfl rfl rfl ?_
    refine awl_weak (weak_ofP [] (l := [(0, .d (.sl false (a_.map eSPhases))), (1, .d (.int .i64 v26)), (5, .d (.int .i64 v27)), (16, .d (.cx .f32 x50.A.re x50.A.im)), (19, .d (.cx .f64 (FloatKind.nearest .f64 v26) (4607182418800017408 : Nat)))]) (objs := []) rfl (by simp) rfl (by repeat' first | exact trivial | refine ⟨?_, ?_⟩) ⟨rfl, trivial, rfl, trivial, rfl, trivial, rfl, trivial, rfl, trivial, trivial⟩) ?_
    refine bnd_elim h fun x51 hx51 h => ?_
    refine bnd_elim h fun x52 hx52 h => ?_
    refine awl_x rfl rfl (x_c2c hτ rfl rfl rfl rfl rfl rfl hx51 hx52) ?_
    refine awl_val hτ rfl rfl rfl ?_
    refine awl_nil ?_
    refine aw_cond rfl (fun hc53 => ?_) (fun hc53 => ?_)
    · have hc53 := not_t hc53
      have h := if_bf h hc53
      refine aw_seq ?_
      refine aw_region ?_
      refine awl_val hτ rfl rfl rfl ?_
      refine awl_nil ?_
      refine aw_weak (weak_ofP [] (l := [(4, .d (.int .i64 (-1 : Int)))]) (objs := []) rfl (by simp) rfl (by repeat' first | exact trivial | refine ⟨?_, ?_⟩) ⟨rfl, trivial, trivial⟩) ?_
      refine aw_ret ?_
      have hr := Option.some.inj h
      subst hr
      exact ret_objs (.inr rfl) [] (objs' := []) (new := []) rfl (by simp) (by simp) rfl (by repeat' first | exact trivial | refine ⟨?_, ?_⟩) rfl rfl (by repeat' first | exact trivial | refine ⟨?_, ?_⟩) (fun _ => ⟨by simp [V.flat, V.flatA, V.flatC, D.flat], flat_nil⟩) ⟨rfl, rfl, rfl⟩
    · have hc53 := not_f hc53
      have h := if_bt h hc53
      refine aw_skip ?_
      refine aw_seq ?_
      refine aw_region ?_
      refine awl_val hτ rfl rfl rfl ?_
      refine awl_val hτ rfl rfl rfl ?_
      refine awl_val hτ rfl rfl rfl ?_
      refine awl_nil ?_
      refine aw_seq ?_
      refine aw_seq ?_
      refine aw_region ?_
      refine awl_val hτ rfl rfl rfl ?_
      refine awl_val hτ rfl rfl rfl ?_
      refine awl_elem hτ rfl rfl rfl (getI_some hx50).1 (map_getI hx50) rfl ?_
      refine awl_val hτ rfl rfl rfl ?_
      refine awl_val hτ rfl rfl rfl ?_
      refine awl_val hτ rfl rfl rfl ?_
      refine awl_val hτ rfl rfl rfl ?_
      refine awl_weak (weak_ofP [] (l := [(0, .d (.sl false (a_.map eSPhases))), (1, .d (.int .i64 (w64 (v26 + (1 : Int))))), (5, .d (.int .i64 v27)), (28, .d (.cx .f32 x50.B.re x50.B.im)), (30, .d (.fl .f64 (FloatKind.nearest .f64 (w64 (v26 + (1 : Int))))))]) (objs := []) rfl (by simp) rfl (by repeat' first | exact trivial | refine ⟨?_, ?_⟩) ⟨rfl, trivial, rfl, trivial, rfl, trivial, rfl, trivial, rfl, trivial, trivial⟩) ?_
      refine awl_val hτ rfl rfl rfl ?_
      refine bnd_elim h fun x56 hx56 h => ?_
      refine bnd_elim h fun x57 hx57 h => ?_
      refine awl_x rfl rfl (x_c2c hτ rfl rfl rfl rfl rfl rfl hx56 hx57) ?_
      refine awl_val hτ rfl rfl rfl ?_
      refine awl_nil ?_
      refine aw_cond rfl (fun hc58 => ?_) (fun hc58 => ?_)
      · have hc58 := not_t hc58
        have h := if_bf h hc58
        refine aw_seq ?_
        refine aw_region ?_
        refine awl_val hτ rfl rfl rfl ?_
        refine awl_nil ?_
        refine aw_weak (weak_ofP [] (l := [(4, .d (.int .i64 (-1 : Int)))]) (objs := []) rfl (by simp) rfl (by repeat' first | exact trivial | refine ⟨?_, ?_⟩) ⟨rfl, trivial, trivial⟩) ?_
        refine aw_ret ?_
        have hr := Option.some.inj h
        subst hr
        exact ret_objs (.inr rfl) [] (objs' := []) (new := []) rfl (by simp) (by simp) rfl (by repeat' first | exact trivial | refine ⟨?_, ?_⟩) rfl rfl (by repeat' first | exact trivial | refine ⟨?_, ?_⟩) (fun _ => ⟨by simp [V.flat, V.flatA, V.flatC, D.flat], flat_nil⟩) ⟨rfl, rfl, rfl⟩
      · have hc58 := not_f hc58
        have h := if_bt h hc58
        refine aw_skip ?_
        refine aw_seq ?_
        refine aw_region ?_
        refine awl_val hτ rfl rfl rfl ?_
        refine awl_val hτ rfl rfl rfl ?_
        refine awl_val hτ rfl rfl rfl ?_
        refine awl_nil ?_
        refine aw_seq ?_
        refine aw_seq ?_
        refine aw_weak (weak_ofP [] (l := [(0, .d (.sl false (a_.map eSPhases))), (1, .d (.int .i64 (w64 ((w64 (v26 + (1 : Int))) + (1 : Int))))), (5, .d (.int .i64 v27))]) (objs := []) rfl (by simp) rfl (by repeat' first | exact trivial | refine ⟨?_, ?_⟩) ⟨rfl, trivial, rfl, trivial, rfl, trivial, trivial⟩) ?_
        refine aw_region ?_
        refine awl_val hτ rfl rfl rfl ?_
        refine awl_val hτ rfl rfl rfl ?_
        refine awl_elem hτ rfl rfl rfl (getI_some hx50).1 (map_getI hx50) rfl ?_
        refine awl_val hτ rfl rfl rfl ?_
        refine awl_val hτ rfl rfl rfl ?_
        refine awl_val hτ rfl rfl rfl ?_
        refine awl_val hτ rfl rfl rfl ?_
        refine awl_val hτ rfl rfl rfl ?_
        refine bnd_elim h fun x61 hx61 h => ?_
        refine bnd_elim h fun x62 hx62 h => ?_
        refine awl_x rfl rfl (x_c2c hτ rfl rfl rfl rfl rfl rfl hx61 hx62) ?_
        refine awl_val hτ rfl rfl rfl ?_
        refine awl_nil ?_
        refine aw_weak (weak_ofP [] (l := [(0, .d (.sl false (a_.map eSPhases))), (1, .d (.int .i64 (w64 ((w64 (v26 + (1 : Int))) + (1 : Int))))), (5, .d (.int .i64 v27)), (45, .d (.bool (!(fcmp .eql .f32 x50.C.re x61 && fcmp .eql .f32 x50.C.im x62))))]) (objs := []) rfl (by simp) rfl (by repeat' first | exact trivial | refine ⟨?_, ?_⟩) ⟨rfl, trivial, rfl, trivial, rfl, trivial, rfl, trivial, trivial⟩) ?_
        refine aw_cond rfl (fun hc63 => ?_) (fun hc63 => ?_)
        · have hc63 := not_t hc63
          have h := if_bf h hc63
          refine aw_seq ?_
          refine aw_region ?_
          refine awl_val hτ rfl rfl rfl ?_
          refine awl_nil ?_
          refine aw_weak (weak_ofP [] (l := [(4, .d (.int .i64 (-1 : Int)))]) (objs := []) rfl (by simp) rfl (by repeat' first | exact trivial | refine ⟨?_, ?_⟩) ⟨rfl, trivial, trivial⟩) ?_
          refine aw_ret ?_
          have hr := Option.some.inj h
          subst hr
          exact ret_objs (.inr rfl) [] (objs' := []) (new := []) rfl (by simp) (by simp) rfl (by repeat' first | exact trivial | refine ⟨?_, ?_⟩) rfl rfl (by repeat' first | exact trivial | refine ⟨?_, ?_⟩) (fun _ => ⟨by simp [V.flat, V.flatA, V.flatC, D.flat], flat_nil⟩) ⟨rfl, rfl, rfl⟩
        · have hc63 := not_f hc63
          have h := if_bt h hc63
          refine aw_skip ?_
          refine aw_region ?_
          refine awl_val hτ rfl rfl rfl ?_
          refine awl_val hτ rfl rfl rfl ?_
          refine awl_val hτ rfl rfl rfl ?_
          refine awl_nil ?_
          refine aw_region ?_
          refine awl_val hτ rfl rfl rfl ?_
          refine awl_val hτ rfl rfl rfl ?_
          refine awl_val hτ rfl rfl rfl ?_
          refine awl_nil ?_
          exact ⟨(m37, (w64 ((w64 ((w64 (v26 + (1 : Int))) + (1 : Int))) + (1 : Int))), (w64 (v27 + (1 : Int)))), h, Nat.lt_succ_self m37, (weak_ofP [] (l := [(0, .d (.sl false (a_.map eSPhases))), (1, .d (.int .i64 (w64 ((w64 ((w64 (v26 + (1 : Int))) + (1 : Int))) + (1 : Int))))), (5, .d (.int .i64 (w64 (v27 + (1 : Int)))))]) (objs := []) rfl (by simp) rfl (by repeat' first | exact trivial | refine ⟨?_, ?_⟩) ⟨rfl, trivial, rfl, trivial, rfl, trivial, trivial⟩)⟩
  · have h := if_f h hc39
    refine aw_exit ?_
    refine aw_seq ?_
    refine aw_region ?_
    refine awl_val hτ rfl rfl rfl ?_
    refine awl_val hτ rfl rfl rfl ?_
    refine awl_nil ?_
    refine aw_weak (weak_ofP [] (l := [(4, .d (.int .i64 v26))]) (objs := []) rfl (by simp) rfl (by repeat' first | exact trivial | refine ⟨?_, ?_⟩) ⟨rfl, trivial, trivial⟩) ?_
    refine aw_ret ?_
    have hr := Option.some.inj h
    subst hr
    exact ret_objs (.inr rfl) [] (objs' := []) (new := []) rfl (by simp) (by simp) rfl (by repeat' first | exact trivial | refine ⟨?_, ?_⟩) rfl rfl (by repeat' first | exact trivial | refine ⟨?_, ?_⟩) (fun _ => ⟨by simp [V.flat, V.flatA, V.flatC, D.flat], flat_nil⟩) ⟨rfl, rfl, rfl⟩
theorem laws_heldPhasesS_ok (n : Nat) (a_ : List SPhases) (k_ : Int) {r : Int} (h : m_laws_heldPhasesS n a_ k_ = some r) : ACall prog false 87 [.d (.sl false (a_.map eSPhases)), .d (.int .i64 k_)] [] (fun v o new => v = .d (.int .i64 r) ∧ o = [] ∧ new = []) := laws_heldPhasesS_ok_fr0 false n a_ k_ h
theorem laws_heldPhasesS_ok_fr (n : Nat) (a_ : List SPhases) (k_ : Int) {r : Int} (h : m_laws_heldPhasesS n a_ k_ = some r) : ACall prog true 87 [.d (.sl false (a_.map eSPhases)), .d (.int .i64 k_)] [] (fun v o new => v = .d (.int .i64 r) ∧ o = [] ∧ new = []) := laws_heldPhasesS_ok_fr0 true n a_ k_ h

def m_laws_heldFlow (n : Nat) (a_ : SFlow) (k_ : Int) : Option Int :=
  (m_laws_heldPhasesS n a_.Voltages k_).bind fun x3 =>
  if x3 < (0 : Int) then
    some (-1 : Int)
  else
    (m_laws_heldPhasesS n a_.Currents x3).bind fun x5 =>
    if x5 < (0 : Int) then
      some (-1 : Int)
    else
      some x5
theorem laws_heldFlow_ok_fr0 (fr : Bool) (n : Nat) (a_ : SFlow) (k_ : Int) {r : Int} (h : m_laws_heldFlow n a_ k_ = some r) : ACall prog fr 43 [.agg [.d (.sl false (a_.Voltages.map eSPhases)), .d (.sl false (a_.Currents.map eSPhases)), .d (.int .i64 a_.Rounds), .d (.bool a_.Rests)], .d (.int .i64 k_)] [] (fun v o new => v = .d (.int .i64 r) ∧ o = [] ∧ new = []) := by
  refine acall_of_aw hτ func43 rfl (by simp) (by simp) ?_
  unfold m_laws_heldFlow at h
  refine aw_seq ?_
  refine aw_region ?_
  refine awl_valH hτ rfl rfl rfl ?_
  refine awl_val hτ rfl rfl rfl ?_
  refine awl_nil ?_
  refine aw_seq ?_
  refine aw_region ?_
  refine awl_val hτ rfl rfl rfl ?_
  refine awl_val hτ rfl rfl rfl ?_
  refine awl_val hτ rfl rfl rfl ?_
  refine bnd_elim h fun x3 hx3 h => ?_
  refine awl_callP hτ false [] rfl rfl rfl (enterOk func87 rfl rfl) rfl rfl (by simp) ⟨trivial, trivial, trivial⟩ (by repeat' first | exact trivial | refine ⟨?_, ?_⟩) (laws_heldPhasesS_ok n a_.Voltages k_ hx3) ?_
  rintro r0 o0 n0 ⟨rfl, rfl, rfl⟩ -
  refine awl_val hτ rfl rfl rfl ?_
  refine awl_nil ?_
  refine aw_seq ?_
  refine aw_seq ?_
  refine aw_weak (weak_ofP [0] (l := [(1, .d (.int .i64 x3)), (2, .ptr 0 0)]) (objs := [.box [.d (.sl false (a_.Voltages.map eSPhases)), .d (.sl false (a_.Currents.map eSPhases)), .d (.int .i64 a_.Rounds), .d (.bool a_.Rests)]]) rfl (by simp) rfl (by repeat' first | exact trivial | refine ⟨?_, ?_⟩) ⟨rfl, trivial, rfl, trivial, trivial⟩) ?_
  refine aw_region ?_
  refine awl_val hτ rfl rfl rfl ?_
  refine awl_val hτ rfl rfl rfl ?_
  refine awl_nil ?_
  refine aw_cond rfl (fun hc4 => ?_) (fun hc4 => ?_)
  · have h := if_t h hc4
    refine aw_seq ?_
    refine aw_region ?_
    refine awl_val hτ rfl rfl rfl ?_
    refine awl_nil ?_
    refine aw_weak (weak_ofP [] (l := [(4, .d (.int .i64 (-1 : Int)))]) (objs := []) rfl (by simp) rfl (by repeat' first | exact trivial | refine ⟨?_, ?_⟩) ⟨rfl, trivial, trivial⟩) ?_
    refine aw_ret ?_
    have hr := Option.some.inj h
    subst hr
    exact ret_objs (.inr rfl) [] (objs' := []) (new := []) rfl (by simp) (by simp) rfl (by repeat' first | exact trivial | refine ⟨?_, ?_⟩) rfl rfl (by repeat' first | exact trivial | refine ⟨?_, ?_⟩) (fun _ => ⟨by simp [V.flat, V.flatA, V.flatC, D.flat], flat_nil⟩) ⟨rfl, rfl, rfl⟩
  · have h := if_f h hc4
    refine aw_skip ?_
    refine aw_seq ?_
    refine aw_region ?_
    refine awl_val hτ rfl rfl rfl ?_
    refine awl_val hτ rfl rfl rfl ?_
    refine awl_val hτ rfl rfl rfl ?_
    refine bnd_elim h fun x5 hx5 h => ?_
    refine awl_callP hτ false [] rfl rfl rfl (enterOk func87 rfl rfl) rfl rfl (by simp) ⟨trivial, trivial, trivial⟩ (by repeat' first | exact trivial | refine ⟨?_, ?_⟩) (laws_heldPhasesS_ok n a_.Currents x3 hx5) ?_
    rintro r0 o0 n0 ⟨rfl, rfl, rfl⟩ -
    refine awl_val hτ rfl rfl rfl ?_
    refine awl_nil ?_
    refine aw_seq ?_
    refine aw_seq ?_
    refine aw_weak (weak_ofP [] (l := [(1, .d (.int .i64 x5))]) (objs := []) rfl (by simp) rfl (by repeat' first | exact trivial | refine ⟨?_, ?_⟩) ⟨rfl, trivial, trivial⟩) ?_
    refine aw_region ?_
    refine awl_val hτ rfl rfl rfl ?_
    refine awl_val hτ rfl rfl rfl ?_
    refine awl_nil ?_
    refine aw_cond rfl (fun hc6 => ?_) (fun hc6 => ?_)
    · have h := if_t h hc6
      refine aw_seq ?_
      refine aw_region ?_
      refine awl_val hτ rfl rfl rfl ?_
      refine awl_nil ?_
      refine aw_weak (weak_ofP [] (l := [(4, .d (.int .i64 (-1 : Int)))]) (objs := []) rfl (by simp) rfl (by repeat' first | exact trivial | refine ⟨?_, ?_⟩) ⟨rfl, trivial, trivial⟩) ?_
      refine aw_ret ?_
      have hr := Option.some.inj h
      subst hr
      exact ret_objs (.inr rfl) [] (objs' := []) (new := []) rfl (by simp) (by simp) rfl (by repeat' first | exact trivial | refine ⟨?_, ?_⟩) rfl rfl (by repeat' first | exact trivial | refine ⟨?_, ?_⟩) (fun _ => ⟨by simp [V.flat, V.flatA, V.flatC, D.flat], flat_nil⟩) ⟨rfl, rfl, rfl⟩
    · have h := if_f h hc6
      refine aw_skip ?_
      refine aw_seq ?_
      refine aw_region ?_
      refine awl_val hτ rfl rfl rfl ?_
      refine awl_val hτ rfl rfl rfl ?_
      refine awl_nil ?_
      refine aw_weak (weak_ofP [] (l := [(4, .d (.int .i64 x5))]) (objs := []) rfl (by simp) rfl (by repeat' first | exact trivial | refine ⟨?_, ?_⟩) ⟨rfl, trivial, trivial⟩) ?_
      refine aw_ret ?_
      have hr := Option.some.inj h
      subst hr
      exact ret_objs (.inr rfl) [] (objs' := []) (new := []) rfl (by simp) (by simp) rfl (by repeat' first | exact trivial | refine ⟨?_, ?_⟩) rfl rfl (by repeat' first | exact trivial | refine ⟨?_, ?_⟩) (fun _ => ⟨by simp [V.flat, V.flatA, V.flatC, D.flat], flat_nil⟩) ⟨rfl, rfl, rfl⟩
theorem laws_heldFlow_ok (n : Nat) (a_ : SFlow) (k_ : Int) {r : Int} (h : m_laws_heldFlow n a_ k_ = some r) : ACall prog false 43 [.agg [.d (.sl false (a_.Voltages.map eSPhases)), .d (.sl false (a_.Currents.map eSPhases)), .d (.int .i64 a_.Rounds), .d (.bool a_.Rests)], .d (.int .i64 k_)] [] (fun v o new => v = .d (.int .i64 r) ∧ o = [] ∧ new = []) := laws_heldFlow_ok_fr0 false n a_ k_ h
theorem laws_heldFlow_ok_fr (n : Nat) (a_ : SFlow) (k_ : Int) {r : Int} (h : m_laws_heldFlow n a_ k_ = some r) : ACall prog true 43 [.agg [.d (.sl false (a_.Voltages.map eSPhases)), .d (.sl false (a_.Currents.map eSPhases)), .d (.int .i64 a_.Rounds), .d (.bool a_.Rests)], .d (.int .i64 k_)] [] (fun v o new => v = .d (.int .i64 r) ∧ o = [] ∧ new = []) := laws_heldFlow_ok_fr0 true n a_ k_ h

def m_laws_FnExactFlowOfBytes_j2 (n : Nat) (x17 : SFlow × Bool) (x21 : Int × List SPhases × List SPhases) : Option Bool :=
  (m_laws_heldFlow n (SFlow.mk x21.2.1 x21.2.2 x17.1.Rounds x17.1.Rests) (1 : Int)).bind fun x31 =>
  if x31 < (0 : Int) then
    some false
  else
    if x31 = x21.1 then
      some true
    else
      some false
def m_laws_FnExactFlowOfBytes_j3 (n : Nat) (x17 : SFlow × Bool) (x21 : Int × List SPhases × List SPhases) (v38 : Bool) : Option Bool :=
  if v38 = true then
    some false
  else
    m_laws_FnExactFlowOfBytes_j2 n x17 x21
def m_laws_FnExactFlowOfBytes_j1 (n : Nat) (aS_ : Str) (aBuses_ : Int) (x16 : SFlow × Bool) (x17 : SFlow × Bool) : Option Bool :=
  (m_laws_markFlow n (SFlow.mk x17.1.Voltages x17.1.Currents x17.1.Rounds x17.1.Rests) (1 : Int)).bind fun x21 =>
  grd (x21.2.1.length = x17.1.Voltages.length) <|
  grd (x21.2.2.length = x17.1.Currents.length) <|
  (m_laws_heldFlow n (SFlow.mk x21.2.1 x21.2.2 x17.1.Rounds x17.1.Rests) (1 : Int)).bind fun x24 =>
  if x24 < (0 : Int) then
    some false
  else
    if x24 = x21.1 then
      (m_impl_FlowOfBytes n aS_ aBuses_).bind fun x27 =>
      (m_laws_eqFlow n (SFlow.mk x27.1.Voltages x27.1.Currents x27.1.Rounds x27.1.Rests) (SFlow.mk x16.1.Voltages x16.1.Currents x16.1.Rounds x16.1.Rests)).bind fun x41 =>
      if x41 = true then
        m_laws_FnExactFlowOfBytes_j3 n x17 x21 (!(x27.2 == x16.2))
      else
        m_laws_FnExactFlowOfBytes_j3 n x17 x21 true
    else
      some false
def m_laws_FnExactFlowOfBytes_j4 (n : Nat) (aS_ : Str) (aBuses_ : Int) (x16 : SFlow × Bool) (x17 : SFlow × Bool) (v47 : Bool) : Option Bool :=
  if v47 = true then
    some false
  else
    m_laws_FnExactFlowOfBytes_j1 n aS_ aBuses_ x16 x17
def m_laws_FnExactFlowOfBytes (n : Nat) (aS_ : Str) (aBuses_ : Int) : Option Bool :=
  if (aS_.length : Int) > (1048576 : Int) then
    some true
  else
    (m_spec_FlowOfBytes n aS_ aBuses_).bind fun x16 =>
    (m_impl_FlowOfBytes n aS_ aBuses_).bind fun x17 =>
    (m_laws_eqFlow n (SFlow.mk x17.1.Voltages x17.1.Currents x17.1.Rounds x17.1.Rests) (SFlow.mk x16.1.Voltages x16.1.Currents x16.1.Rounds x16.1.Rests)).bind fun x50 =>
    if x50 = true then
      m_laws_FnExactFlowOfBytes_j4 n aS_ aBuses_ x16 x17 (!(x17.2 == x16.2))
    else
      m_laws_FnExactFlowOfBytes_j4 n aS_ aBuses_ x16 x17 true
theorem laws_FnExactFlowOfBytes_ok_fr0 (fr : Bool) (n : Nat) (aS_ : Str) (aBuses_ : Int) {r : Bool} (h : m_laws_FnExactFlowOfBytes n aS_ aBuses_ = some r) : ACall prog fr 7 [.d (.str (bstr aS_)), .d (.int .i64 aBuses_)] [] (fun v o new => v = .d (.bool r) ∧ o = [] ∧ new = []) := by
  refine acall_of_aw hτ func7 rfl (by simp) (by simp) ?_
  unfold m_laws_FnExactFlowOfBytes at h
  refine aw_seq ?_
  refine aw_region ?_
  refine awl_val hτ rfl rfl rfl ?_
  refine awl_nil ?_
  refine aw_seq ?_
  refine aw_seq ?_
  refine aw_region ?_
  refine awl_val hτ rfl rfl rfl ?_
  refine awl_val hτ rfl rfl rfl ?_
  refine awl_val hτ rfl rfl rfl ?_
  refine awl_nil ?_
  refine aw_cond rfl (fun hc15 => ?_) (fun hc15 => ?_)
  · have h := if_t h hc15
    refine aw_seq ?_
    refine aw_region ?_
    refine awl_val hτ rfl rfl rfl ?_
    refine awl_nil ?_
    refine aw_weak (weak_ofP [] (l := [(4, .d (.bool true))]) (objs := []) rfl (by simp) rfl (by repeat' first | exact trivial | refine ⟨?_, ?_⟩) ⟨rfl, trivial, trivial⟩) ?_
    refine aw_ret ?_
    have hr := Option.some.inj h
    subst hr
    exact ret_objs (.inr rfl) [] (objs' := []) (new := []) rfl (by simp) (by simp) rfl (by repeat' first | exact trivial | refine ⟨?_, ?_⟩) rfl rfl (by repeat' first | exact trivial | refine ⟨?_, ?_⟩) (fun _ => ⟨by simp [V.flat, V.flatA, V.flatC, D.flat], flat_nil⟩) ⟨rfl, rfl, rfl⟩
  · have h := if_f h hc15
    refine aw_skip ?_
    refine aw_seq ?_
    refine aw_region ?_
    refine awl_val hτ rfl rfl rfl ?_
    refine awl_val hτ rfl rfl rfl ?_
    refine bnd_elim h fun x16 hx16 h => ?_
    refine awl_callP hτ false [] rfl rfl rfl (enterOk func39 rfl rfl) rfl rfl (by simp) ⟨trivial, trivial, trivial⟩ (by repeat' first | exact trivial | refine ⟨?_, ?_⟩) (spec_FlowOfBytes_ok n aS_ aBuses_ hx16) ?_
    rintro r0 o0 n0 ⟨rfl, rfl, rfl⟩ -
    refine awl_val hτ rfl rfl rfl ?_
    refine awl_val hτ rfl rfl rfl ?_
    refine awl_val hτ rfl rfl rfl ?_
    refine awl_valH hτ rfl rfl rfl ?_
    refine awl_valH hτ rfl rfl rfl ?_
    refine awl_weak (weak_ofP [2, 0, 1] (l := [(0, .d (.str (bstr aS_))), (1, .d (.int .i64 aBuses_)), (5, .ptr 0 0), (21, .d (.bool x16.2))]) (objs := [.box [.row 1 x16.1.Voltages.length 0 x16.1.Voltages.length, .row 2 x16.1.Currents.length 0 x16.1.Currents.length, .d (.int .i64 x16.1.Rounds), .d (.bool x16.1.Rests)], .row 3 (x16.1.Voltages.map eSPhases), .row 3 (x16.1.Currents.map eSPhases)]) rfl (by simp) rfl (by repeat' first | exact trivial | refine ⟨?_, ?_⟩) ⟨rfl, trivial, rfl, trivial, rfl, trivial, rfl, trivial, trivial⟩) ?_
    refine awl_val hτ rfl rfl rfl ?_
    refine awl_nil ?_
    refine aw_seq ?_
    refine aw_region ?_
    refine awl_val hτ rfl rfl rfl ?_
    refine awl_val hτ rfl rfl rfl ?_
    refine bnd_elim h fun x17 hx17 h => ?_
    refine awl_callP hτ false [] rfl rfl rfl (enterOk func40 rfl rfl) rfl rfl (by simp) ⟨trivial, trivial, trivial⟩ (by repeat' first | exact trivial | refine ⟨?_, ?_⟩) (impl_FlowOfBytes_ok n aS_ aBuses_ hx17) ?_
    rintro r0 o0 n0 ⟨rfl, rfl, rfl⟩ -
    refine awl_val hτ rfl rfl rfl ?_
    refine awl_val hτ rfl rfl rfl ?_
    refine awl_val hτ rfl rfl rfl ?_
    refine awl_valH hτ rfl rfl rfl ?_
    refine awl_valH hτ rfl rfl rfl ?_
    refine awl_val hτ rfl rfl rfl ?_
    refine awl_nil ?_
    refine aw_hk1 (ι := Unit) (fun _ => St.of [(0, .d (.str (bstr aS_))), (1, .d (.int .i64 aBuses_)), (5, .ptr 0 0), (6, .d (.bool x16.2)), (7, .ptr 3 0)] [.box [.row 1 x16.1.Voltages.length 0 x16.1.Voltages.length, .row 2 x16.1.Currents.length 0 x16.1.Currents.length, .d (.int .i64 x16.1.Rounds), .d (.bool x16.1.Rests)], .row 3 (x16.1.Voltages.map eSPhases), .row 3 (x16.1.Currents.map eSPhases), .box [.row 4 x17.1.Voltages.length 0 x17.1.Voltages.length, .row 5 x17.1.Currents.length 0 x17.1.Currents.length, .d (.int .i64 x17.1.Rounds), .d (.bool x17.1.Rests)], .row 3 (x17.1.Voltages.map eSPhases), .row 3 (x17.1.Currents.map eSPhases)] f7.ntmps 0) (fun _ => m_laws_FnExactFlowOfBytes_j1 n aS_ aBuses_ x16 x17 = some r) ?_ (fun hk43 => ?_)
    · rintro ⟨⟩ h
      replace h : m_laws_FnExactFlowOfBytes_j1 n aS_ aBuses_ x16 x17 = some r := h
      unfold m_laws_FnExactFlowOfBytes_j1 at h
      refine aw_seq ?_
      refine aw_region ?_
      refine awl_val hτ rfl rfl rfl ?_
      refine awl_nil ?_
      refine aw_seq ?_
      refine aw_region ?_
      refine awl_val hτ rfl rfl rfl ?_
      refine awl_val hτ rfl rfl rfl ?_
      refine bnd_elim h fun x21 hx21 h => ?_
      refine awl_callP hτ false [4, 5] rfl rfl rfl (enterOk func42 rfl rfl) rfl rfl (by simp) ⟨(by repeat' first | exact trivial | refine ⟨?_, ?_⟩), trivial, trivial⟩ (by repeat' first | exact trivial | refine ⟨?_, ?_⟩) (laws_markFlow_ok n (SFlow.mk x17.1.Voltages x17.1.Currents x17.1.Rounds x17.1.Rests) (1 : Int) hx21) ?_
      rintro r0 o0 n0 ⟨rfl, rfl, rfl⟩ -
      refine grd_elim h fun hg22 h => ?_
      refine grd_elim h fun hg23 h => ?_
      refine awl_val hτ rfl rfl rfl ?_
      refine awl_nil ?_
      refine aw_seq ?_
      refine aw_region ?_
      refine awl_val hτ rfl rfl rfl ?_
      refine awl_nil ?_
      refine aw_seq ?_
      refine aw_weak (weak_ofP [0, 1, 2, 3, 4, 5] (l := [(0, .d (.str (bstr aS_))), (1, .d (.int .i64 aBuses_)), (5, .ptr 0 0), (6, .d (.bool x16.2)), (7, .ptr 3 0), (9, .d (.int .i64 x21.1)), (10, .d (.int .i64 (1 : Int)))]) (objs := [.box [.row 1 x16.1.Voltages.length 0 x16.1.Voltages.length, .row 2 x16.1.Currents.length 0 x16.1.Currents.length, .d (.int .i64 x16.1.Rounds), .d (.bool x16.1.Rests)], .row 3 (x16.1.Voltages.map eSPhases), .row 3 (x16.1.Currents.map eSPhases), .box [.row 4 x21.2.1.length 0 x21.2.1.length, .row 5 x21.2.2.length 0 x21.2.2.length, .d (.int .i64 x17.1.Rounds), .d (.bool x17.1.Rests)], .row 3 (x21.2.1.map eSPhases), .row 3 (x21.2.2.map eSPhases)]) rfl (by simp) (mapO_cons rfl (mapO_cons rfl (mapO_cons rfl (mapO_cons (exO_box (mapO_cons (exC_rowL rfl (by simp [hg22, hg23])) (mapO_cons (exC_rowL rfl (by simp [hg22, hg23])) (mapO_cons rfl (mapO_cons rfl mapO_nil))))) (mapO_cons rfl (mapO_cons rfl mapO_nil)))))) ⟨(by repeat' first | exact trivial | refine ⟨?_, ?_⟩), trivial, trivial, ⟨trivial, trivial, trivial, trivial⟩, trivial, trivial, trivial⟩ ⟨rfl, trivial, rfl, trivial, rfl, trivial, rfl, trivial, rfl, trivial, rfl, trivial, rfl, trivial, trivial⟩) ?_
      refine aw_region ?_
      refine awl_val hτ rfl rfl rfl ?_
      refine awl_val hτ rfl rfl rfl ?_
      refine awl_weak (weak_ofP [0, 1, 2, 3, 4, 5] (l := [(0, .d (.str (bstr aS_))), (1, .d (.int .i64 aBuses_)), (5, .ptr 0 0), (6, .d (.bool x16.2)), (7, .ptr 3 0), (9, .d (.int .i64 x21.1)), (10, .d (.int .i64 (1 : Int))), (40, .agg [.row 4 x21.2.1.length 0 x21.2.1.length, .row 5 x21.2.2.length 0 x21.2.2.length, .d (.int .i64 x17.1.Rounds), .d (.bool x17.1.Rests)]), (41, .d (.int .i64 (1 : Int)))]) (objs := [.box [.row 1 x16.1.Voltages.length 0 x16.1.Voltages.length, .row 2 x16.1.Currents.length 0 x16.1.Currents.length, .d (.int .i64 x16.1.Rounds), .d (.bool x16.1.Rests)], .row 3 (x16.1.Voltages.map eSPhases), .row 3 (x16.1.Currents.map eSPhases), .box [.row 4 x21.2.1.length 0 x21.2.1.length, .row 5 x21.2.2.length 0 x21.2.2.length, .d (.int .i64 x17.1.Rounds), .d (.bool x17.1.Rests)], .row 3 (x21.2.1.map eSPhases), .row 3 (x21.2.2.map eSPhases)]) rfl (by simp) rfl (by repeat' first | exact trivial | refine ⟨?_, ?_⟩) ⟨rfl, trivial, rfl, trivial, rfl, trivial, rfl, trivial, rfl, trivial, rfl, trivial, rfl, trivial, rfl, (by repeat' first | exact trivial | refine ⟨?_, ?_⟩), rfl, trivial, trivial⟩) ?_
      refine bnd_elim h fun x24 hx24 h => ?_
      refine awl_callP hτ true [] rfl rfl rfl (enterOk func43 rfl rfl) (mapO_cons (exV_agg (mapO_cons (exC_view (f := eSPhases) x21.2.1 rfl rfl rfl) (mapO_cons (exC_view (f := eSPhases) x21.2.2 rfl rfl rfl) (mapO_cons rfl (mapO_cons rfl mapO_nil))))) (mapO_cons rfl mapO_nil)) rfl (by simp) ⟨⟨(exP_view (f := eSPhases) x21.2.1 rfl rfl rfl), (exP_view (f := eSPhases) x21.2.2 rfl rfl rfl), trivial, trivial⟩, trivial, trivial⟩ (by repeat' first | exact trivial | refine ⟨?_, ?_⟩) (laws_heldFlow_ok_fr n (SFlow.mk x21.2.1 x21.2.2 x17.1.Rounds x17.1.Rests) (1 : Int) hx24) ?_
      rintro r0 o0 n0 ⟨rfl, rfl, rfl⟩ -
      refine awl_val hτ rfl rfl rfl ?_
      refine awl_nil ?_
      refine aw_seq ?_
      refine aw_seq ?_
      refine aw_region ?_
      refine awl_val hτ rfl rfl rfl ?_
      refine awl_val hτ rfl rfl rfl ?_
      refine awl_nil ?_
      refine aw_cond rfl (fun hc25 => ?_) (fun hc25 => ?_)
      · have h := if_t h hc25
        refine aw_seq ?_
        refine aw_region ?_
        refine awl_val hτ rfl rfl rfl ?_
        refine awl_nil ?_
        refine aw_weak (weak_ofP [] (l := [(4, .d (.bool false))]) (objs := []) rfl (by simp) rfl (by repeat' first | exact trivial | refine ⟨?_, ?_⟩) ⟨rfl, trivial, trivial⟩) ?_
        refine aw_ret ?_
        have hr := Option.some.inj h
        subst hr
        exact ret_objs (.inr rfl) [] (objs' := []) (new := []) rfl (by simp) (by simp) rfl (by repeat' first | exact trivial | refine ⟨?_, ?_⟩) rfl rfl (by repeat' first | exact trivial | refine ⟨?_, ?_⟩) (fun _ => ⟨by simp [V.flat, V.flatA, V.flatC, D.flat], flat_nil⟩) ⟨rfl, rfl, rfl⟩
      · have h := if_f h hc25
        refine aw_skip ?_
        refine aw_seq ?_
        refine aw_seq ?_
        refine aw_region ?_
        refine awl_val hτ rfl rfl rfl ?_
        refine awl_val hτ rfl rfl rfl ?_
        refine awl_val hτ (v := .d (.bool (!(decide (x24 = x21.1))))) rfl rfl (or_ine _ _) ?_
        refine awl_nil ?_
        refine aw_weak (weak_ofP [0, 1, 2, 3, 4, 5] (l := [(0, .d (.str (bstr aS_))), (1, .d (.int .i64 aBuses_)), (5, .ptr 0 0), (6, .d (.bool x16.2)), (7, .ptr 3 0), (9, .d (.int .i64 x21.1)), (47, .d (.bool (!(decide (x24 = x21.1)))))]) (objs := [.box [.row 1 x16.1.Voltages.length 0 x16.1.Voltages.length, .row 2 x16.1.Currents.length 0 x16.1.Currents.length, .d (.int .i64 x16.1.Rounds), .d (.bool x16.1.Rests)], .row 3 (x16.1.Voltages.map eSPhases), .row 3 (x16.1.Currents.map eSPhases), .box [.row 4 x21.2.1.length 0 x21.2.1.length, .row 5 x21.2.2.length 0 x21.2.2.length, .d (.int .i64 x17.1.Rounds), .d (.bool x17.1.Rests)], .row 3 (x21.2.1.map eSPhases), .row 3 (x21.2.2.map eSPhases)]) rfl (by simp) rfl (by repeat' first | exact trivial | refine ⟨?_, ?_⟩) ⟨rfl, trivial, rfl, trivial, rfl, trivial, rfl, trivial, rfl, trivial, rfl, trivial, rfl, trivial, trivial⟩) ?_
        refine aw_cond rfl (fun hc26 => ?_) (fun hc26 => ?_)
        · have hc26 := not_t hc26
          have h := if_f h hc26
          refine aw_seq ?_
          refine aw_region ?_
          refine awl_val hτ rfl rfl rfl ?_
          refine awl_nil ?_
          refine aw_weak (weak_ofP [] (l := [(4, .d (.bool false))]) (objs := []) rfl (by simp) rfl (by repeat' first | exact trivial | refine ⟨?_, ?_⟩) ⟨rfl, trivial, trivial⟩) ?_
          refine aw_ret ?_
          have hr := Option.some.inj h
          subst hr
          exact ret_objs (.inr rfl) [] (objs' := []) (new := []) rfl (by simp) (by simp) rfl (by repeat' first | exact trivial | refine ⟨?_, ?_⟩) rfl rfl (by repeat' first | exact trivial | refine ⟨?_, ?_⟩) (fun _ => ⟨by simp [V.flat, V.flatA, V.flatC, D.flat], flat_nil⟩) ⟨rfl, rfl, rfl⟩
        · have hc26 := not_f hc26
          have h := if_t h hc26
          refine aw_skip ?_
          refine aw_seq ?_
          refine aw_region ?_
          refine awl_val hτ rfl rfl rfl ?_
          refine awl_val hτ rfl rfl rfl ?_
          refine bnd_elim h fun x27 hx27 h => ?_
          refine awl_callP hτ false [] rfl rfl rfl (enterOk func40 rfl rfl) rfl rfl (by simp) ⟨trivial, trivial, trivial⟩ (by repeat' first | exact trivial | refine ⟨?_, ?_⟩) (impl_FlowOfBytes_ok n aS_ aBuses_ hx27) ?_
          rintro r0 o0 n0 ⟨rfl, rfl, rfl⟩ -
          refine awl_val hτ rfl rfl rfl ?_
          refine awl_val hτ rfl rfl rfl ?_
          refine awl_val hτ rfl rfl rfl ?_
          refine awl_valH hτ rfl rfl rfl ?_
          refine awl_valH hτ rfl rfl rfl ?_
          refine awl_val hτ rfl rfl rfl ?_
          refine awl_nil ?_
          refine aw_hk1 (ι := Unit) (fun _ => St.of [(7, .ptr 0 0), (9, .d (.int .i64 x21.1))] [.box [.row 1 x21.2.1.length 0 x21.2.1.length, .row 2 x21.2.2.length 0 x21.2.2.length, .d (.int .i64 x17.1.Rounds), .d (.bool x17.1.Rests)], .row 3 (x21.2.1.map eSPhases), .row 3 (x21.2.2.map eSPhases)] f7.ntmps 0) (fun _ => m_laws_FnExactFlowOfBytes_j2 n x17 x21 = some r) ?_ (fun hk34 => ?_)
          · rintro ⟨⟩ h
            replace h : m_laws_FnExactFlowOfBytes_j2 n x17 x21 = some r := h
            unfold m_laws_FnExactFlowOfBytes_j2 at h
            refine aw_seq ?_
            refine aw_region ?_
            refine awl_val hτ rfl rfl rfl ?_
            refine awl_nil ?_
            refine aw_seq ?_
            refine aw_region ?_
            refine awl_val hτ rfl rfl rfl ?_
            refine awl_val hτ rfl rfl rfl ?_
            refine awl_weak (weak_ofP [1, 2] (l := [(9, .d (.int .i64 x21.1)), (10, .d (.int .i64 (1 : Int))), (63, .agg [.row 0 x21.2.1.length 0 x21.2.1.length, .row 1 x21.2.2.length 0 x21.2.2.length, .d (.int .i64 x17.1.Rounds), .d (.bool x17.1.Rests)]), (64, .d (.int .i64 (1 : Int)))]) (objs := [.row 3 (x21.2.1.map eSPhases), .row 3 (x21.2.2.map eSPhases)]) rfl (by simp) rfl (by repeat' first | exact trivial | refine ⟨?_, ?_⟩) ⟨rfl, trivial, rfl, trivial, rfl, (by repeat' first | exact trivial | refine ⟨?_, ?_⟩), rfl, trivial, trivial⟩) ?_
            refine bnd_elim h fun x31 hx31 h => ?_
            refine awl_callP hτ true [] rfl rfl rfl (enterOk func43 rfl rfl) (mapO_cons (exV_agg (mapO_cons (exC_view (f := eSPhases) x21.2.1 rfl rfl rfl) (mapO_cons (exC_view (f := eSPhases) x21.2.2 rfl rfl rfl) (mapO_cons rfl (mapO_cons rfl mapO_nil))))) (mapO_cons rfl mapO_nil)) rfl (by simp) ⟨⟨(exP_view (f := eSPhases) x21.2.1 rfl rfl rfl), (exP_view (f := eSPhases) x21.2.2 rfl rfl rfl), trivial, trivial⟩, trivial, trivial⟩ (by repeat' first | exact trivial | refine ⟨?_, ?_⟩) (laws_heldFlow_ok_fr n (SFlow.mk x21.2.1 x21.2.2 x17.1.Rounds x17.1.Rests) (1 : Int) hx31) ?_
            rintro r0 o0 n0 ⟨rfl, rfl, rfl⟩ -
            refine awl_val hτ rfl rfl rfl ?_
            refine awl_nil ?_
            refine aw_seq ?_
            refine aw_seq ?_
            refine aw_region ?_
            refine awl_val hτ rfl rfl rfl ?_
            refine awl_val hτ rfl rfl rfl ?_
            refine awl_nil ?_
            refine aw_cond rfl (fun hc32 => ?_) (fun hc32 => ?_)
            · have h := if_t h hc32
              refine aw_seq ?_
              refine aw_region ?_
              refine awl_val hτ rfl rfl rfl ?_
              refine awl_nil ?_
              refine aw_weak (weak_ofP [] (l := [(4, .d (.bool false))]) (objs := []) rfl (by simp) rfl (by repeat' first | exact trivial | refine ⟨?_, ?_⟩) ⟨rfl, trivial, trivial⟩) ?_
              refine aw_ret ?_
              have hr := Option.some.inj h
              subst hr
              exact ret_objs (.inr rfl) [] (objs' := []) (new := []) rfl (by simp) (by simp) rfl (by repeat' first | exact trivial | refine ⟨?_, ?_⟩) rfl rfl (by repeat' first | exact trivial | refine ⟨?_, ?_⟩) (fun _ => ⟨by simp [V.flat, V.flatA, V.flatC, D.flat], flat_nil⟩) ⟨rfl, rfl, rfl⟩
            · have h := if_f h hc32
              refine aw_skip ?_
              refine aw_seq ?_
              refine aw_seq ?_
              refine aw_region ?_
              refine awl_val hτ rfl rfl rfl ?_
              refine awl_val hτ rfl rfl rfl ?_
              refine awl_val hτ (v := .d (.bool (!(decide (x31 = x21.1))))) rfl rfl (or_ine _ _) ?_
              refine awl_nil ?_
              refine aw_weak (weak_ofP [] (l := [(70, .d (.bool (!(decide (x31 = x21.1)))))]) (objs := []) rfl (by simp) rfl (by repeat' first | exact trivial | refine ⟨?_, ?_⟩) ⟨rfl, trivial, trivial⟩) ?_
              refine aw_cond rfl (fun hc33 => ?_) (fun hc33 => ?_)
              · have hc33 := not_t hc33
                have h := if_f h hc33
                refine aw_seq ?_
                refine aw_region ?_
                refine awl_val hτ rfl rfl rfl ?_
                refine awl_nil ?_
                refine aw_weak (weak_ofP [] (l := [(4, .d (.bool false))]) (objs := []) rfl (by simp) rfl (by repeat' first | exact trivial | refine ⟨?_, ?_⟩) ⟨rfl, trivial, trivial⟩) ?_
                refine aw_ret ?_
                have hr := Option.some.inj h
                subst hr
                exact ret_objs (.inr rfl) [] (objs' := []) (new := []) rfl (by simp) (by simp) rfl (by repeat' first | exact trivial | refine ⟨?_, ?_⟩) rfl rfl (by repeat' first | exact trivial | refine ⟨?_, ?_⟩) (fun _ => ⟨by simp [V.flat, V.flatA, V.flatC, D.flat], flat_nil⟩) ⟨rfl, rfl, rfl⟩
              · have hc33 := not_f hc33
                have h := if_t h hc33
                refine aw_skip ?_
                refine aw_seq ?_
                refine aw_region ?_
                refine awl_val hτ rfl rfl rfl ?_
                refine awl_nil ?_
                refine aw_weak (weak_ofP [] (l := [(4, .d (.bool true))]) (objs := []) rfl (by simp) rfl (by repeat' first | exact trivial | refine ⟨?_, ?_⟩) ⟨rfl, trivial, trivial⟩) ?_
                refine aw_ret ?_
                have hr := Option.some.inj h
                subst hr
                exact ret_objs (.inr rfl) [] (objs' := []) (new := []) rfl (by simp) (by simp) rfl (by repeat' first | exact trivial | refine ⟨?_, ?_⟩) rfl rfl (by repeat' first | exact trivial | refine ⟨?_, ?_⟩) (fun _ => ⟨by simp [V.flat, V.flatA, V.flatC, D.flat], flat_nil⟩) ⟨rfl, rfl, rfl⟩
          · refine aw_seq ?_
            refine aw_hk1 (ι := Bool) (fun v38 => St.of [(7, .ptr 0 0), (9, .d (.int .i64 x21.1)), (62, .d (.bool v38))] [.box [.row 1 x21.2.1.length 0 x21.2.1.length, .row 2 x21.2.2.length 0 x21.2.2.length, .d (.int .i64 x17.1.Rounds), .d (.bool x17.1.Rests)], .row 3 (x21.2.1.map eSPhases), .row 3 (x21.2.2.map eSPhases)] f7.ntmps 0) (fun v38 => m_laws_FnExactFlowOfBytes_j3 n x17 x21 v38 = some r) ?_ (fun hk40 => ?_)
            · rintro v38 h
              replace h : m_laws_FnExactFlowOfBytes_j3 n x17 x21 v38 = some r := h
              unfold m_laws_FnExactFlowOfBytes_j3 at h
              refine aw_cond rfl (fun hc39 => ?_) (fun hc39 => ?_)
              · have h := if_bt h hc39
                refine aw_seq ?_
                refine aw_region ?_
                refine awl_val hτ rfl rfl rfl ?_
                refine awl_nil ?_
                refine aw_weak (weak_ofP [] (l := [(4, .d (.bool false))]) (objs := []) rfl (by simp) rfl (by repeat' first | exact trivial | refine ⟨?_, ?_⟩) ⟨rfl, trivial, trivial⟩) ?_
                refine aw_ret ?_
                have hr := Option.some.inj h
                subst hr
                exact ret_objs (.inr rfl) [] (objs' := []) (new := []) rfl (by simp) (by simp) rfl (by repeat' first | exact trivial | refine ⟨?_, ?_⟩) rfl rfl (by repeat' first | exact trivial | refine ⟨?_, ?_⟩) (fun _ => ⟨by simp [V.flat, V.flatA, V.flatC, D.flat], flat_nil⟩) ⟨rfl, rfl, rfl⟩
              · have h := if_bf h hc39
                refine aw_skip ?_
                refine aw_weak (weak_ofP [0, 1, 2] (l := [(7, .ptr 0 0), (9, .d (.int .i64 x21.1))]) (objs := [.box [.row 1 x21.2.1.length 0 x21.2.1.length, .row 2 x21.2.2.length 0 x21.2.2.length, .d (.int .i64 x17.1.Rounds), .d (.bool x17.1.Rests)], .row 3 (x21.2.1.map eSPhases), .row 3 (x21.2.2.map eSPhases)]) rfl (by simp) rfl (by repeat' first | exact trivial | refine ⟨?_, ?_⟩) ⟨rfl, trivial, rfl, trivial, trivial⟩) ?_
                exact hk34 () h
            · refine aw_seq ?_
              refine aw_weak (weak_ofP [0, 1, 2, 3, 4, 5, 8, 6, 7] (l := [(5, .ptr 0 0), (6, .d (.bool x16.2)), (7, .ptr 3 0), (9, .d (.int .i64 x21.1)), (11, .ptr 6 0), (12, .d (.bool x27.2))]) (objs := [.box [.row 1 x16.1.Voltages.length 0 x16.1.Voltages.length, .row 2 x16.1.Currents.length 0 x16.1.Currents.length, .d (.int .i64 x16.1.Rounds), .d (.bool x16.1.Rests)], .row 3 (x16.1.Voltages.map eSPhases), .row 3 (x16.1.Currents.map eSPhases), .box [.row 4 x21.2.1.length 0 x21.2.1.length, .row 5 x21.2.2.length 0 x21.2.2.length, .d (.int .i64 x17.1.Rounds), .d (.bool x17.1.Rests)], .row 3 (x21.2.1.map eSPhases), .row 3 (x21.2.2.map eSPhases), .box [.row 7 x27.1.Voltages.length 0 x27.1.Voltages.length, .row 8 x27.1.Currents.length 0 x27.1.Currents.length, .d (.int .i64 x27.1.Rounds), .d (.bool x27.1.Rests)], .row 3 (x27.1.Voltages.map eSPhases), .row 3 (x27.1.Currents.map eSPhases)]) rfl (by simp) rfl (by repeat' first | exact trivial | refine ⟨?_, ?_⟩) ⟨rfl, trivial, rfl, trivial, rfl, trivial, rfl, trivial, rfl, trivial, rfl, trivial, trivial⟩) ?_
              refine aw_region ?_
              refine awl_val hτ rfl rfl rfl ?_
              refine awl_val hτ rfl rfl rfl ?_
              refine awl_weak (weak_ofP [3, 4, 5, 7, 8, 1, 2] (l := [(6, .d (.bool x16.2)), (7, .ptr 0 0), (9, .d (.int .i64 x21.1)), (12, .d (.bool x27.2)), (54, .agg [.row 3 x27.1.Voltages.length 0 x27.1.Voltages.length, .row 4 x27.1.Currents.length 0 x27.1.Currents.length, .d (.int .i64 x27.1.Rounds), .d (.bool x27.1.Rests)]), (55, .agg [.row 5 x16.1.Voltages.length 0 x16.1.Voltages.length, .row 6 x16.1.Currents.length 0 x16.1.Currents.length, .d (.int .i64 x16.1.Rounds), .d (.bool x16.1.Rests)])]) (objs := [.box [.row 1 x21.2.1.length 0 x21.2.1.length, .row 2 x21.2.2.length 0 x21.2.2.length, .d (.int .i64 x17.1.Rounds), .d (.bool x17.1.Rests)], .row 3 (x21.2.1.map eSPhases), .row 3 (x21.2.2.map eSPhases), .row 3 (x27.1.Voltages.map eSPhases), .row 3 (x27.1.Currents.map eSPhases), .row 3 (x16.1.Voltages.map eSPhases), .row 3 (x16.1.Currents.map eSPhases)]) rfl (by simp) rfl (by repeat' first | exact trivial | refine ⟨?_, ?_⟩) ⟨rfl, trivial, rfl, trivial, rfl, trivial, rfl, trivial, rfl, (by repeat' first | exact trivial | refine ⟨?_, ?_⟩), rfl, (by repeat' first | exact trivial | refine ⟨?_, ?_⟩), trivial⟩) ?_
              refine bnd_elim h fun x41 hx41 h => ?_
              refine awl_callP hτ true [] rfl rfl rfl (enterOk func41 rfl rfl) (mapO_cons (exV_agg (mapO_cons (exC_view (f := eSPhases) x27.1.Voltages rfl rfl rfl) (mapO_cons (exC_view (f := eSPhases) x27.1.Currents rfl rfl rfl) (mapO_cons rfl (mapO_cons rfl mapO_nil))))) (mapO_cons (exV_agg (mapO_cons (exC_view (f := eSPhases) x16.1.Voltages rfl rfl rfl) (mapO_cons (exC_view (f := eSPhases) x16.1.Currents rfl rfl rfl) (mapO_cons rfl (mapO_cons rfl mapO_nil))))) mapO_nil)) rfl (by simp) ⟨⟨(exP_view (f := eSPhases) x27.1.Voltages rfl rfl rfl), (exP_view (f := eSPhases) x27.1.Currents rfl rfl rfl), trivial, trivial⟩, ⟨(exP_view (f := eSPhases) x16.1.Voltages rfl rfl rfl), (exP_view (f := eSPhases) x16.1.Currents rfl rfl rfl), trivial, trivial⟩, trivial⟩ (by repeat' first | exact trivial | refine ⟨?_, ?_⟩) (laws_eqFlow_ok_fr n (SFlow.mk x27.1.Voltages x27.1.Currents x27.1.Rounds x27.1.Rests) (SFlow.mk x16.1.Voltages x16.1.Currents x16.1.Rounds x16.1.Rests) hx41) ?_
              rintro r0 o0 n0 ⟨rfl, rfl, rfl⟩ -
              refine awl_val hτ rfl rfl rfl ?_
              refine awl_val hτ rfl rfl rfl ?_
              refine awl_split 58 rfl (fun hb42 => ?_) (fun hb42 => ?_)
              · have hb42 := not_t hb42
                have h := if_bf h hb42
                refine awl_skip rfl rfl ?_
                refine awl_skip rfl rfl ?_
                refine awl_skip rfl rfl ?_
                refine awl_val hτ rfl rfl rfl ?_
                refine awl_nil ?_
                refine aw_weak (weak_ofP [0, 1, 2] (l := [(7, .ptr 0 0), (9, .d (.int .i64 x21.1)), (62, .d (.bool true))]) (objs := [.box [.row 1 x21.2.1.length 0 x21.2.1.length, .row 2 x21.2.2.length 0 x21.2.2.length, .d (.int .i64 x17.1.Rounds), .d (.bool x17.1.Rests)], .row 3 (x21.2.1.map eSPhases), .row 3 (x21.2.2.map eSPhases)]) rfl (by simp) rfl (by repeat' first | exact trivial | refine ⟨?_, ?_⟩) ⟨rfl, trivial, rfl, trivial, rfl, trivial, trivial⟩) ?_
                exact hk40 true h
              · have hb42 := not_f hb42
                have h := if_bt h hb42
                refine awl_val hτ rfl rfl rfl ?_
                refine awl_val hτ rfl rfl rfl ?_
                refine awl_val hτ rfl rfl rfl ?_
                refine awl_val hτ rfl rfl rfl ?_
                refine awl_nil ?_
                refine aw_weak (weak_ofP [0, 1, 2] (l := [(7, .ptr 0 0), (9, .d (.int .i64 x21.1)), (62, .d (.bool (!(x27.2 == x16.2))))]) (objs := [.box [.row 1 x21.2.1.length 0 x21.2.1.length, .row 2 x21.2.2.length 0 x21.2.2.length, .d (.int .i64 x17.1.Rounds), .d (.bool x17.1.Rests)], .row 3 (x21.2.1.map eSPhases), .row 3 (x21.2.2.map eSPhases)]) rfl (by simp) rfl (by repeat' first | exact trivial | refine ⟨?_, ?_⟩) ⟨rfl, trivial, rfl, trivial, rfl, trivial, trivial⟩) ?_
                exact hk40 (!(x27.2 == x16.2)) h
    · refine aw_seq ?_
      refine aw_hk1 (ι := Bool) (fun v47 => St.of [(0, .d (.str (bstr aS_))), (1, .d (.int .i64 aBuses_)), (5, .ptr 0 0), (6, .d (.bool x16.2)), (7, .ptr 3 0), (36, .d (.bool v47))] [.box [.row 1 x16.1.Voltages.length 0 x16.1.Voltages.length, .row 2 x16.1.Currents.length 0 x16.1.Currents.length, .d (.int .i64 x16.1.Rounds), .d (.bool x16.1.Rests)], .row 3 (x16.1.Voltages.map eSPhases), .row 3 (x16.1.Currents.map eSPhases), .box [.row 4 x17.1.Voltages.length 0 x17.1.Voltages.length, .row 5 x17.1.Currents.length 0 x17.1.Currents.length, .d (.int .i64 x17.1.Rounds), .d (.bool x17.1.Rests)], .row 3 (x17.1.Voltages.map eSPhases), .row 3 (x17.1.Currents.map eSPhases)] f7.ntmps 0) (fun v47 => m_laws_FnExactFlowOfBytes_j4 n aS_ aBuses_ x16 x17 v47 = some r) ?_ (fun hk49 => ?_)
      · rintro v47 h
        replace h : m_laws_FnExactFlowOfBytes_j4 n aS_ aBuses_ x16 x17 v47 = some r := h
        unfold m_laws_FnExactFlowOfBytes_j4 at h
        refine aw_cond rfl (fun hc48 => ?_) (fun hc48 => ?_)
        · have h := if_bt h hc48
          refine aw_seq ?_
          refine aw_region ?_
          refine awl_val hτ rfl rfl rfl ?_
          refine awl_nil ?_
          refine aw_weak (weak_ofP [] (l := [(4, .d (.bool false))]) (objs := []) rfl (by simp) rfl (by repeat' first | exact trivial | refine ⟨?_, ?_⟩) ⟨rfl, trivial, trivial⟩) ?_
          refine aw_ret ?_
          have hr := Option.some.inj h
          subst hr
          exact ret_objs (.inr rfl) [] (objs' := []) (new := []) rfl (by simp) (by simp) rfl (by repeat' first | exact trivial | refine ⟨?_, ?_⟩) rfl rfl (by repeat' first | exact trivial | refine ⟨?_, ?_⟩) (fun _ => ⟨by simp [V.flat, V.flatA, V.flatC, D.flat], flat_nil⟩) ⟨rfl, rfl, rfl⟩
        · have h := if_bf h hc48
          refine aw_skip ?_
          refine aw_weak (weak_ofP [0, 1, 2, 3, 4, 5] (l := [(0, .d (.str (bstr aS_))), (1, .d (.int .i64 aBuses_)), (5, .ptr 0 0), (6, .d (.bool x16.2)), (7, .ptr 3 0)]) (objs := [.box [.row 1 x16.1.Voltages.length 0 x16.1.Voltages.length, .row 2 x16.1.Currents.length 0 x16.1.Currents.length, .d (.int .i64 x16.1.Rounds), .d (.bool x16.1.Rests)], .row 3 (x16.1.Voltages.map eSPhases), .row 3 (x16.1.Currents.map eSPhases), .box [.row 4 x17.1.Voltages.length 0 x17.1.Voltages.length, .row 5 x17.1.Currents.length 0 x17.1.Currents.length, .d (.int .i64 x17.1.Rounds), .d (.bool x17.1.Rests)], .row 3 (x17.1.Voltages.map eSPhases), .row 3 (x17.1.Currents.map eSPhases)]) rfl (by simp) rfl (by repeat' first | exact trivial | refine ⟨?_, ?_⟩) ⟨rfl, trivial, rfl, trivial, rfl, trivial, rfl, trivial, rfl, trivial, trivial⟩) ?_
          exact hk43 () h
      · refine aw_seq ?_
        refine aw_weak (weak_ofP [0, 1, 2, 5, 3, 4] (l := [(0, .d (.str (bstr aS_))), (1, .d (.int .i64 aBuses_)), (5, .ptr 0 0), (6, .d (.bool x16.2)), (7, .ptr 3 0), (8, .d (.bool x17.2))]) (objs := [.box [.row 1 x16.1.Voltages.length 0 x16.1.Voltages.length, .row 2 x16.1.Currents.length 0 x16.1.Currents.length, .d (.int .i64 x16.1.Rounds), .d (.bool x16.1.Rests)], .row 3 (x16.1.Voltages.map eSPhases), .row 3 (x16.1.Currents.map eSPhases), .box [.row 4 x17.1.Voltages.length 0 x17.1.Voltages.length, .row 5 x17.1.Currents.length 0 x17.1.Currents.length, .d (.int .i64 x17.1.Rounds), .d (.bool x17.1.Rests)], .row 3 (x17.1.Voltages.map eSPhases), .row 3 (x17.1.Currents.map eSPhases)]) rfl (by simp) rfl (by repeat' first | exact trivial | refine ⟨?_, ?_⟩) ⟨rfl, trivial, rfl, trivial, rfl, trivial, rfl, trivial, rfl, trivial, rfl, trivial, trivial⟩) ?_
        refine aw_region ?_
        refine awl_val hτ rfl rfl rfl ?_
        refine awl_val hτ rfl rfl rfl ?_
        refine awl_weak (weak_ofP [0, 1, 2, 3, 4, 5] (l := [(0, .d (.str (bstr aS_))), (1, .d (.int .i64 aBuses_)), (5, .ptr 0 0), (6, .d (.bool x16.2)), (7, .ptr 3 0), (8, .d (.bool x17.2)), (28, .agg [.row 4 x17.1.Voltages.length 0 x17.1.Voltages.length, .row 5 x17.1.Currents.length 0 x17.1.Currents.length, .d (.int .i64 x17.1.Rounds), .d (.bool x17.1.Rests)]), (29, .agg [.row 1 x16.1.Voltages.length 0 x16.1.Voltages.length, .row 2 x16.1.Currents.length 0 x16.1.Currents.length, .d (.int .i64 x16.1.Rounds), .d (.bool x16.1.Rests)])]) (objs := [.box [.row 1 x16.1.Voltages.length 0 x16.1.Voltages.length, .row 2 x16.1.Currents.length 0 x16.1.Currents.length, .d (.int .i64 x16.1.Rounds), .d (.bool x16.1.Rests)], .row 3 (x16.1.Voltages.map eSPhases), .row 3 (x16.1.Currents.map eSPhases), .box [.row 4 x17.1.Voltages.length 0 x17.1.Voltages.length, .row 5 x17.1.Currents.length 0 x17.1.Currents.length, .d (.int .i64 x17.1.Rounds), .d (.bool x17.1.Rests)], .row 3 (x17.1.Voltages.map eSPhases), .row 3 (x17.1.Currents.map eSPhases)]) rfl (by simp) rfl (by repeat' first | exact trivial | refine ⟨?_, ?_⟩) ⟨rfl, trivial, rfl, trivial, rfl, trivial, rfl, trivial, rfl, trivial, rfl, trivial, rfl, (by repeat' first | exact trivial | refine ⟨?_, ?_⟩), rfl, (by repeat' first | exact trivial | refine ⟨?_, ?_⟩), trivial⟩) ?_
        refine bnd_elim h fun x50 hx50 h => ?_
        refine awl_callP hτ true [] rfl rfl rfl (enterOk func41 rfl rfl) (mapO_cons (exV_agg (mapO_cons (exC_view (f := eSPhases) x17.1.Voltages rfl rfl rfl) (mapO_cons (exC_view (f := eSPhases) x17.1.Currents rfl rfl rfl) (mapO_cons rfl (mapO_cons rfl mapO_nil))))) (mapO_cons (exV_agg (mapO_cons (exC_view (f := eSPhases) x16.1.Voltages rfl rfl rfl) (mapO_cons (exC_view (f := eSPhases) x16.1.Currents rfl rfl rfl) (mapO_cons rfl (mapO_cons rfl mapO_nil))))) mapO_nil)) rfl (by simp) ⟨⟨(exP_view (f := eSPhases) x17.1.Voltages rfl rfl rfl), (exP_view (f := eSPhases) x17.1.Currents rfl rfl rfl), trivial, trivial⟩, ⟨(exP_view (f := eSPhases) x16.1.Voltages rfl rfl rfl), (exP_view (f := eSPhases) x16.1.Currents rfl rfl rfl), trivial, trivial⟩, trivial⟩ (by repeat' first | exact trivial | refine ⟨?_, ?_⟩) (laws_eqFlow_ok_fr n (SFlow.mk x17.1.Voltages x17.1.Currents x17.1.Rounds x17.1.Rests) (SFlow.mk x16.1.Voltages x16.1.Currents x16.1.Rounds x16.1.Rests) hx50) ?_
        rintro r0 o0 n0 ⟨rfl, rfl, rfl⟩ -
        refine awl_val hτ rfl rfl rfl ?_
        refine awl_val hτ rfl rfl rfl ?_
        refine awl_split 32 rfl (fun hb51 => ?_) (fun hb51 => ?_)
        · have hb51 := not_t hb51
          have h := if_bf h hb51
          refine awl_skip rfl rfl ?_
          refine awl_skip rfl rfl ?_
          refine awl_skip rfl rfl ?_
          refine awl_val hτ rfl rfl rfl ?_
          refine awl_nil ?_
          refine aw_weak (weak_ofP [0, 1, 2, 3, 4, 5] (l := [(0, .d (.str (bstr aS_))), (1, .d (.int .i64 aBuses_)), (5, .ptr 0 0), (6, .d (.bool x16.2)), (7, .ptr 3 0), (36, .d (.bool true))]) (objs := [.box [.row 1 x16.1.Voltages.length 0 x16.1.Voltages.length, .row 2 x16.1.Currents.length 0 x16.1.Currents.length, .d (.int .i64 x16.1.Rounds), .d (.bool x16.1.Rests)], .row 3 (x16.1.Voltages.map eSPhases), .row 3 (x16.1.Currents.map eSPhases), .box [.row 4 x17.1.Voltages.length 0 x17.1.Voltages.length, .row 5 x17.1.Currents.length 0 x17.1.Currents.length, .d (.int .i64 x17.1.Rounds), .d (.bool x17.1.Rests)], .row 3 (x17.1.Voltages.map eSPhases), .row 3 (x17.1.Currents.map eSPhases)]) rfl (by simp) rfl (by repeat' first | exact trivial | refine ⟨?_, ?_⟩) ⟨rfl, trivial, rfl, trivial, rfl, trivial, rfl, trivial, rfl, trivial, rfl, trivial, trivial⟩) ?_
          exact hk49 true h
        · have hb51 := not_f hb51
          have h := if_bt h hb51
          refine awl_val hτ rfl rfl rfl ?_
          refine awl_val hτ rfl rfl rfl ?_
          refine awl_val hτ rfl rfl rfl ?_
          refine awl_val hτ rfl rfl rfl ?_
          refine awl_nil ?_
          refine aw_weak (weak_ofP [0, 1, 2, 3, 4, 5] (l := [(0, .d (.str (bstr aS_))), (1, .d (.int .i64 aBuses_)), (5, .ptr 0 0), (6, .d (.bool x16.2)), (7, .ptr 3 0), (36, .d (.bool (!(x17.2 == x16.2))))]) (objs := [.box [.row 1 x16.1.Voltages.length 0 x16.1.Voltages.length, .row 2 x16.1.Currents.length 0 x16.1.Currents.length, .d (.int .i64 x16.1.Rounds), .d (.bool x16.1.Rests)], .row 3 (x16.1.Voltages.map eSPhases), .row 3 (x16.1.Currents.map eSPhases), .box [.row 4 x17.1.Voltages.length 0 x17.1.Voltages.length, .row 5 x17.1.Currents.length 0 x17.1.Currents.length, .d (.int .i64 x17.1.Rounds), .d (.bool x17.1.Rests)], .row 3 (x17.1.Voltages.map eSPhases), .row 3 (x17.1.Currents.map eSPhases)]) rfl (by simp) rfl (by repeat' first | exact trivial | refine ⟨?_, ?_⟩) ⟨rfl, trivial, rfl, trivial, rfl, trivial, rfl, trivial, rfl, trivial, rfl, trivial, trivial⟩) ?_
          exact hk49 (!(x17.2 == x16.2)) h
theorem laws_FnExactFlowOfBytes_ok (n : Nat) (aS_ : Str) (aBuses_ : Int) {r : Bool} (h : m_laws_FnExactFlowOfBytes n aS_ aBuses_ = some r) : ACall prog false 7 [.d (.str (bstr aS_)), .d (.int .i64 aBuses_)] [] (fun v o new => v = .d (.bool r) ∧ o = [] ∧ new = []) := laws_FnExactFlowOfBytes_ok_fr0 false n aS_ aBuses_ h
theorem laws_FnExactFlowOfBytes_ok_fr (n : Nat) (aS_ : Str) (aBuses_ : Int) {r : Bool} (h : m_laws_FnExactFlowOfBytes n aS_ aBuses_ = some r) : ACall prog true 7 [.d (.str (bstr aS_)), .d (.int .i64 aBuses_)] [] (fun v o new => v = .d (.bool r) ∧ o = [] ∧ new = []) := laws_FnExactFlowOfBytes_ok_fr0 true n aS_ aBuses_ h

end Go.Proofs.Ytolggocnbakokaa.AWN
