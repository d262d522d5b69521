/- Models and contracts, printed by program. -/
import Derived.Test.YtkagbffdmppbhaaDeskA
set_option linter.unusedVariables false
set_option linter.unusedSimpArgs false
namespace Go.Proofs.Ytkagbffdmppbhaa.AWN
open Go Go.Proofs.Try

def m_laws_markBusS_l1 (n : Nat) : Nat → List SBus → Int → Int → Option (Int × List SBus)
  | 0, _, _, _ => none
  | m85 + 1, v61, v62, v63 =>
    if v63 < (v61.length : Int) then
      (getI v61 v63).bind fun x88 =>
      (fconv .f64 .f32 (FloatKind.nearest .f64 (w64 (v62 + (1 : Int))))).bind fun x89 =>
      (fconv .f64 .f32 (4607182418800017408 : Nat)).bind fun x90 =>
      (getI (v61.set v63.toNat (SBus.mk v62 x88.Own x88.Shared x88.Kind x88.Load x88.Customers)) v63).bind fun x91 =>
      (fconv .f64 .f32 (FloatKind.nearest .f64 (w64 ((w64 (v62 + (1 : Int))) + (1 : Int))))).bind fun x92 =>
      (fconv .f64 .f32 (4607182418800017408 : Nat)).bind fun x93 =>
      (getI ((v61.set v63.toNat (SBus.mk v62 x88.Own x88.Shared x88.Kind x88.Load x88.Customers)).set v63.toNat (SBus.mk x91.Parent (Cx.mk x89 x90) x91.Shared x91.Kind x91.Load x91.Customers)) v63).bind fun x94 =>
      (getI (((v61.set v63.toNat (SBus.mk v62 x88.Own x88.Shared x88.Kind x88.Load x88.Customers)).set v63.toNat (SBus.mk x91.Parent (Cx.mk x89 x90) x91.Shared x91.Kind x91.Load x91.Customers)).set v63.toNat (SBus.mk x94.Parent x94.Own (Cx.mk x92 x93) x94.Kind x94.Load x94.Customers)) v63).bind fun x95 =>
      (fconv .f64 .f32 (FloatKind.nearest .f64 (w64 ((w64 ((w64 ((w64 (v62 + (1 : Int))) + (1 : Int))) + (1 : Int))) + (1 : Int))))).bind fun x96 =>
      (fconv .f64 .f32 (4607182418800017408 : Nat)).bind fun x97 =>
      (getI ((((v61.set v63.toNat (SBus.mk v62 x88.Own x88.Shared x88.Kind x88.Load x88.Customers)).set v63.toNat (SBus.mk x91.Parent (Cx.mk x89 x90) x91.Shared x91.Kind x91.Load x91.Customers)).set v63.toNat (SBus.mk x94.Parent x94.Own (Cx.mk x92 x93) x94.Kind x94.Load x94.Customers)).set v63.toNat (SBus.mk x95.Parent x95.Own x95.Shared (w64 ((w64 ((w64 (v62 + (1 : Int))) + (1 : Int))) + (1 : Int))) x95.Load x95.Customers)) v63).bind fun x98 =>
      (fconv .f64 .f32 (FloatKind.nearest .f64 (w64 ((w64 ((w64 ((w64 ((w64 (v62 + (1 : Int))) + (1 : Int))) + (1 : Int))) + (1 : Int))) + (1 : Int))))).bind fun x99 =>
      (fconv .f64 .f32 (4607182418800017408 : Nat)).bind fun x100 =>
      (getI (((((v61.set v63.toNat (SBus.mk v62 x88.Own x88.Shared x88.Kind x88.Load x88.Customers)).set v63.toNat (SBus.mk x91.Parent (Cx.mk x89 x90) x91.Shared x91.Kind x91.Load x91.Customers)).set v63.toNat (SBus.mk x94.Parent x94.Own (Cx.mk x92 x93) x94.Kind x94.Load x94.Customers)).set v63.toNat (SBus.mk x95.Parent x95.Own x95.Shared (w64 ((w64 ((w64 (v62 + (1 : Int))) + (1 : Int))) + (1 : Int))) x95.Load x95.Customers)).set v63.toNat (SBus.mk x98.Parent x98.Own x98.Shared x98.Kind (SPhases.mk (Cx.mk x96 x97) x98.Load.B x98.Load.C) x98.Customers)) v63).bind fun x101 =>
      (fconv .f64 .f32 (FloatKind.nearest .f64 (w64 ((w64 ((w64 ((w64 ((w64 ((w64 (v62 + (1 : Int))) + (1 : Int))) + (1 : Int))) + (1 : Int))) + (1 : Int))) + (1 : Int))))).bind fun x102 =>
      (fconv .f64 .f32 (4607182418800017408 : Nat)).bind fun x103 =>
      (getI ((((((v61.set v63.toNat (SBus.mk v62 x88.Own x88.Shared x88.Kind x88.Load x88.Customers)).set v63.toNat (SBus.mk x91.Parent (Cx.mk x89 x90) x91.Shared x91.Kind x91.Load x91.Customers)).set v63.toNat (SBus.mk x94.Parent x94.Own (Cx.mk x92 x93) x94.Kind x94.Load x94.Customers)).set v63.toNat (SBus.mk x95.Parent x95.Own x95.Shared (w64 ((w64 ((w64 (v62 + (1 : Int))) + (1 : Int))) + (1 : Int))) x95.Load x95.Customers)).set v63.toNat (SBus.mk x98.Parent x98.Own x98.Shared x98.Kind (SPhases.mk (Cx.mk x96 x97) x98.Load.B x98.Load.C) x98.Customers)).set v63.toNat (SBus.mk x101.Parent x101.Own x101.Shared x101.Kind (SPhases.mk x101.Load.A (Cx.mk x99 x100) x101.Load.C) x101.Customers)) v63).bind fun x104 =>
      (getI (((((((v61.set v63.toNat (SBus.mk v62 x88.Own x88.Shared x88.Kind x88.Load x88.Customers)).set v63.toNat (SBus.mk x91.Parent (Cx.mk x89 x90) x91.Shared x91.Kind x91.Load x91.Customers)).set v63.toNat (SBus.mk x94.Parent x94.Own (Cx.mk x92 x93) x94.Kind x94.Load x94.Customers)).set v63.toNat (SBus.mk x95.Parent x95.Own x95.Shared (w64 ((w64 ((w64 (v62 + (1 : Int))) + (1 : Int))) + (1 : Int))) x95.Load x95.Customers)).set v63.toNat (SBus.mk x98.Parent x98.Own x98.Shared x98.Kind (SPhases.mk (Cx.mk x96 x97) x98.Load.B x98.Load.C) x98.Customers)).set v63.toNat (SBus.mk x101.Parent x101.Own x101.Shared x101.Kind (SPhases.mk x101.Load.A (Cx.mk x99 x100) x101.Load.C) x101.Customers)).set v63.toNat (SBus.mk x104.Parent x104.Own x104.Shared x104.Kind (SPhases.mk x104.Load.A x104.Load.B (Cx.mk x102 x103)) x104.Customers)) v63).bind fun x105 =>
      (m_laws_markBusS_l1 n m85) ((((((((v61.set v63.toNat (SBus.mk v62 x88.Own x88.Shared x88.Kind x88.Load x88.Customers)).set v63.toNat (SBus.mk x91.Parent (Cx.mk x89 x90) x91.Shared x91.Kind x91.Load x91.Customers)).set v63.toNat (SBus.mk x94.Parent x94.Own (Cx.mk x92 x93) x94.Kind x94.Load x94.Customers)).set v63.toNat (SBus.mk x95.Parent x95.Own x95.Shared (w64 ((w64 ((w64 (v62 + (1 : Int))) + (1 : Int))) + (1 : Int))) x95.Load x95.Customers)).set v63.toNat (SBus.mk x98.Parent x98.Own x98.Shared x98.Kind (SPhases.mk (Cx.mk x96 x97) x98.Load.B x98.Load.C) x98.Customers)).set v63.toNat (SBus.mk x101.Parent x101.Own x101.Shared x101.Kind (SPhases.mk x101.Load.A (Cx.mk x99 x100) x101.Load.C) x101.Customers)).set v63.toNat (SBus.mk x104.Parent x104.Own x104.Shared x104.Kind (SPhases.mk x104.Load.A x104.Load.B (Cx.mk x102 x103)) x104.Customers)).set v63.toNat (SBus.mk x105.Parent x105.Own x105.Shared x105.Kind x105.Load (w64 ((w64 ((w64 ((w64 ((w64 ((w64 ((w64 (v62 + (1 : Int))) + (1 : Int))) + (1 : Int))) + (1 : Int))) + (1 : Int))) + (1 : Int))) + (1 : Int))))) (w64 ((w64 ((w64 ((w64 ((w64 ((w64 ((w64 ((w64 (v62 + (1 : Int))) + (1 : Int))) + (1 : Int))) + (1 : Int))) + (1 : Int))) + (1 : Int))) + (1 : Int))) + (1 : Int))) (w64 (v63 + (1 : Int)))
    else
      some (v62, v61)
def m_laws_markBusS (n : Nat) (a_ : List SBus) (k_ : Int) : Option (Int × List SBus) :=
  m_laws_markBusS_l1 n n a_ k_ (0 : Int)
theorem laws_markBusS_ok_fr0 (fr : Bool) (n : Nat) (a_ : List SBus) (k_ : Int) {r : Int × List SBus} (h : m_laws_markBusS n a_ k_ = some r) : ACall prog fr 170 [.row 0 a_.length 0 a_.length, .d (.int .i64 k_)] [.row 8 (a_.map eSBus)] (fun v o new => v = .d (.int .i64 r.1) ∧ o = [.row 8 (r.2.map eSBus)] ∧ new = []) := by
  refine acall_of_aw hτ func170 rfl (by simp) (by simp) ?_
  unfold m_laws_markBusS at h
  refine aw_seq ?_
  refine aw_region ?_
  refine awl_val hτ rfl rfl rfl ?_
  refine awl_nil ?_
  refine aw_seq ?_
  refine aw_seq ?_
  refine aw_region ?_
  refine awl_val hτ rfl rfl rfl ?_
  refine awl_nil ?_
  refine aw_block ?_
  refine aw_loop (ι := Nat × List SBus × Int × Int) (fun (m85, v61, v62, v63) => St.of [(0, .row 0 v61.length 0 v61.length), (1, .d (.int .i64 v62)), (5, .d (.int .i64 v63))] [.row 8 (v61.map eSBus)] f170.ntmps 1) (fun (m85, v61, v62, v63) => m_laws_markBusS_l1 n m85 v61 v62 v63 = some r) (fun x => x.1) (n, a_, k_, (0 : Int)) h (weak_ofP [0] (l := [(0, .row 0 a_.length 0 a_.length), (1, .d (.int .i64 k_)), (5, .d (.int .i64 (0 : Int)))]) (objs := [.row 8 (a_.map eSBus)]) rfl (by simp) rfl (by repeat' first | exact trivial | refine ⟨?_, ?_⟩) ⟨rfl, trivial, rfl, trivial, rfl, trivial, trivial⟩) ?_
  rintro ⟨m85, v61, v62, v63⟩ h
  replace h : m_laws_markBusS_l1 n m85 v61 v62 v63 = some r := h
  rcases m85 with _ | m85
  · rw [m_laws_markBusS_l1] at h; cases h
  rw [m_laws_markBusS_l1] at h
  refine aw_seq ?_
  refine aw_seq ?_
  refine aw_region ?_
  refine awl_val hτ rfl rfl rfl ?_
  refine awl_val hτ rfl rfl rfl ?_
  refine awl_need hτ rfl rfl rfl (len_map _) ?_
  refine awl_val hτ rfl rfl rfl ?_
  refine awl_nil ?_
  refine aw_cond rfl (fun hc87 => ?_) (fun hc87 => ?_)
  · have h := if_t h hc87
    refine aw_skip ?_
    refine aw_seq ?_
    refine aw_block ?_
    refine aw_seq ?_
    refine aw_region ?_
    refine awl_val hτ rfl rfl rfl ?_
    refine awl_val hτ rfl rfl rfl ?_
    refine awl_val hτ rfl rfl rfl ?_
    refine bnd_elim h fun x88 hx88 h => ?_
    refine awl_need hτ rfl rfl rfl (row_need hx88) ?_
    refine awl_need hτ rfl rfl rfl (len_map _) ?_
    refine awl_elemH hτ rfl rfl rfl (len_map _) (row_get hx88) (set_val (f := eSBus) (l := v61) (i := v63) (y := (SBus.mk v62 x88.Own x88.Shared x88.Kind x88.Load x88.Customers)) rfl) ?_
    refine awl_nil ?_
    refine aw_seq ?_
    refine aw_weak (weak_ofP [0] (l := [(0, .row 0 ((v61.set v63.toNat (SBus.mk v62 x88.Own x88.Shared x88.Kind x88.Load x88.Customers)).length) 0 ((v61.set v63.toNat (SBus.mk v62 x88.Own x88.Shared x88.Kind x88.Load x88.Customers)).length)), (1, .d (.int .i64 v62)), (5, .d (.int .i64 v63))]) (objs := [.row 8 ((v61.set v63.toNat (SBus.mk v62 x88.Own x88.Shared x88.Kind x88.Load x88.Customers)).map eSBus)]) rfl (by simp) rfl (by repeat' first | exact trivial | refine ⟨?_, ?_⟩) ⟨(exV_rowL rfl (by simp)), trivial, rfl, trivial, rfl, trivial, trivial⟩) ?_
    refine aw_region ?_
    refine awl_val hτ rfl rfl rfl ?_
    refine awl_val hτ rfl rfl rfl ?_
    refine awl_val hτ rfl rfl rfl ?_
    refine awl_nil ?_
    refine aw_seq ?_
    refine aw_region ?_
    refine awl_val hτ rfl rfl rfl ?_
    refine awl_val hτ rfl rfl rfl ?_
    refine awl_val hτ rfl rfl rfl ?_
    refine awl_val hτ rfl rfl rfl ?_
    refine awl_val hτ rfl rfl rfl ?_
    refine bnd_elim h fun x89 hx89 h => ?_
    refine bnd_elim h fun x90 hx90 h => ?_
    refine awl_x rfl rfl (x_c2c hτ rfl rfl rfl rfl rfl rfl hx89 hx90) ?_
    refine bnd_elim h fun x91 hx91 h => ?_
    refine awl_need hτ rfl rfl rfl (row_need hx91) ?_
    refine awl_need hτ rfl rfl rfl (len_map _) ?_
    refine awl_elemH hτ rfl rfl rfl (len_map _) (row_get hx91) (set_val (f := eSBus) (l := (v61.set v63.toNat (SBus.mk v62 x88.Own x88.Shared x88.Kind x88.Load x88.Customers))) (i := v63) (y := (SBus.mk x91.Parent (Cx.mk x89 x90) x91.Shared x91.Kind x91.Load x91.Customers)) rfl) ?_
    refine awl_nil ?_
    refine aw_seq ?_
    refine aw_weak (weak_ofP [0] (l := [(0, .row 0 (((v61.set v63.toNat (SBus.mk v62 x88.Own x88.Shared x88.Kind x88.Load x88.Customers)).set v63.toNat (SBus.mk x91.Parent (Cx.mk x89 x90) x91.Shared x91.Kind x91.Load x91.Customers)).length) 0 (((v61.set v63.toNat (SBus.mk v62 x88.Own x88.Shared x88.Kind x88.Load x88.Customers)).set v63.toNat (SBus.mk x91.Parent (Cx.mk x89 x90) x91.Shared x91.Kind x91.Load x91.Customers)).length)), (1, .d (.int .i64 (w64 (v62 + (1 : Int))))), (5, .d (.int .i64 v63))]) (objs := [.row 8 (((v61.set v63.toNat (SBus.mk v62 x88.Own x88.Shared x88.Kind x88.Load x88.Customers)).set v63.toNat (SBus.mk x91.Parent (Cx.mk x89 x90) x91.Shared x91.Kind x91.Load x91.Customers)).map eSBus)]) rfl (by simp) rfl (by repeat' first | exact trivial | refine ⟨?_, ?_⟩) ⟨(exV_rowL rfl (by simp)), trivial, rfl, trivial, rfl, trivial, trivial⟩) ?_
    refine aw_region ?_
    refine awl_val hτ rfl rfl rfl ?_
    refine awl_val hτ rfl rfl rfl ?_
    refine awl_val hτ rfl rfl rfl ?_
    refine awl_nil ?_
    refine aw_seq ?_
    refine aw_region ?_
    refine awl_val hτ rfl rfl rfl ?_
    refine awl_val hτ rfl rfl rfl ?_
    refine awl_val hτ rfl rfl rfl ?_
    refine awl_val hτ rfl rfl rfl ?_
    refine awl_val hτ rfl rfl rfl ?_
    refine bnd_elim h fun x92 hx92 h => ?_
    refine bnd_elim h fun x93 hx93 h => ?_
    refine awl_x rfl rfl (x_c2c hτ rfl rfl rfl rfl rfl rfl hx92 hx93) ?_
    refine bnd_elim h fun x94 hx94 h => ?_
    refine awl_need hτ rfl rfl rfl (row_need hx94) ?_
    refine awl_need hτ rfl rfl rfl (len_map _) ?_
    refine awl_elemH hτ rfl rfl rfl (len_map _) (row_get hx94) (set_val (f := eSBus) (l := ((v61.set v63.toNat (SBus.mk v62 x88.Own x88.Shared x88.Kind x88.Load x88.Customers)).set v63.toNat (SBus.mk x91.Parent (Cx.mk x89 x90) x91.Shared x91.Kind x91.Load x91.Customers))) (i := v63) (y := (SBus.mk x94.Parent x94.Own (Cx.mk x92 x93) x94.Kind x94.Load x94.Customers)) rfl) ?_
    refine awl_nil ?_
    refine aw_seq ?_
    refine aw_weak (weak_ofP [0] (l := [(0, .row 0 ((((v61.set v63.toNat (SBus.mk v62 x88.Own x88.Shared x88.Kind x88.Load x88.Customers)).set v63.toNat (SBus.mk x91.Parent (Cx.mk x89 x90) x91.Shared x91.Kind x91.Load x91.Customers)).set v63.toNat (SBus.mk x94.Parent x94.Own (Cx.mk x92 x93) x94.Kind x94.Load x94.Customers)).length) 0 ((((v61.set v63.toNat (SBus.mk v62 x88.Own x88.Shared x88.Kind x88.Load x88.Customers)).set v63.toNat (SBus.mk x91.Parent (Cx.mk x89 x90) x91.Shared x91.Kind x91.Load x91.Customers)).set v63.toNat (SBus.mk x94.Parent x94.Own (Cx.mk x92 x93) x94.Kind x94.Load x94.Customers)).length)), (1, .d (.int .i64 (w64 ((w64 (v62 + (1 : Int))) + (1 : Int))))), (5, .d (.int .i64 v63))]) (objs := [.row 8 ((((v61.set v63.toNat (SBus.mk v62 x88.Own x88.Shared x88.Kind x88.Load x88.Customers)).set v63.toNat (SBus.mk x91.Parent (Cx.mk x89 x90) x91.Shared x91.Kind x91.Load x91.Customers)).set v63.toNat (SBus.mk x94.Parent x94.Own (Cx.mk x92 x93) x94.Kind x94.Load x94.Customers)).map eSBus)]) rfl (by simp) rfl (by repeat' first | exact trivial | refine ⟨?_, ?_⟩) ⟨(exV_rowL rfl (by simp)), trivial, rfl, trivial, rfl, trivial, trivial⟩) ?_
    refine aw_region ?_
    refine awl_val hτ rfl rfl rfl ?_
    refine awl_val hτ rfl rfl rfl ?_
    refine awl_val hτ rfl rfl rfl ?_
    refine awl_nil ?_
    refine aw_seq ?_
    refine aw_region ?_
    refine awl_val hτ rfl rfl rfl ?_
    refine awl_val hτ rfl rfl rfl ?_
    refine awl_val hτ rfl rfl rfl ?_
    refine bnd_elim h fun x95 hx95 h => ?_
    refine awl_need hτ rfl rfl rfl (row_need hx95) ?_
    refine awl_need hτ rfl rfl rfl (len_map _) ?_
    refine awl_elemH hτ rfl rfl rfl (len_map _) (row_get hx95) (set_val (f := eSBus) (l := (((v61.set v63.toNat (SBus.mk v62 x88.Own x88.Shared x88.Kind x88.Load x88.Customers)).set v63.toNat (SBus.mk x91.Parent (Cx.mk x89 x90) x91.Shared x91.Kind x91.Load x91.Customers)).set v63.toNat (SBus.mk x94.Parent x94.Own (Cx.mk x92 x93) x94.Kind x94.Load x94.Customers))) (i := v63) (y := (SBus.mk x95.Parent x95.Own x95.Shared (w64 ((w64 ((w64 (v62 + (1 : Int))) + (1 : Int))) + (1 : Int))) x95.Load x95.Customers)) rfl) ?_
    refine awl_nil ?_
    refine aw_seq ?_
    refine aw_weak (weak_ofP [0] (l := [(0, .row 0 (((((v61.set v63.toNat (SBus.mk v62 x88.Own x88.Shared x88.Kind x88.Load x88.Customers)).set v63.toNat (SBus.mk x91.Parent (Cx.mk x89 x90) x91.Shared x91.Kind x91.Load x91.Customers)).set v63.toNat (SBus.mk x94.Parent x94.Own (Cx.mk x92 x93) x94.Kind x94.Load x94.Customers)).set v63.toNat (SBus.mk x95.Parent x95.Own x95.Shared (w64 ((w64 ((w64 (v62 + (1 : Int))) + (1 : Int))) + (1 : Int))) x95.Load x95.Customers)).length) 0 (((((v61.set v63.toNat (SBus.mk v62 x88.Own x88.Shared x88.Kind x88.Load x88.Customers)).set v63.toNat (SBus.mk x91.Parent (Cx.mk x89 x90) x91.Shared x91.Kind x91.Load x91.Customers)).set v63.toNat (SBus.mk x94.Parent x94.Own (Cx.mk x92 x93) x94.Kind x94.Load x94.Customers)).set v63.toNat (SBus.mk x95.Parent x95.Own x95.Shared (w64 ((w64 ((w64 (v62 + (1 : Int))) + (1 : Int))) + (1 : Int))) x95.Load x95.Customers)).length)), (1, .d (.int .i64 (w64 ((w64 ((w64 (v62 + (1 : Int))) + (1 : Int))) + (1 : Int))))), (5, .d (.int .i64 v63))]) (objs := [.row 8 (((((v61.set v63.toNat (SBus.mk v62 x88.Own x88.Shared x88.Kind x88.Load x88.Customers)).set v63.toNat (SBus.mk x91.Parent (Cx.mk x89 x90) x91.Shared x91.Kind x91.Load x91.Customers)).set v63.toNat (SBus.mk x94.Parent x94.Own (Cx.mk x92 x93) x94.Kind x94.Load x94.Customers)).set v63.toNat (SBus.mk x95.Parent x95.Own x95.Shared (w64 ((w64 ((w64 (v62 + (1 : Int))) + (1 : Int))) + (1 : Int))) x95.Load x95.Customers)).map eSBus)]) rfl (by simp) rfl (by repeat' first | exact trivial | refine ⟨?_, ?_⟩) ⟨(exV_rowL rfl (by simp)), trivial, rfl, trivial, rfl, trivial, trivial⟩) ?_
    refine aw_region ?_
    refine awl_val hτ rfl rfl rfl ?_
    refine awl_val hτ rfl rfl rfl ?_
    refine awl_val hτ rfl rfl rfl ?_
    refine awl_nil ?_
    refine aw_seq ?_
    refine aw_region ?_
    refine awl_val hτ rfl rfl rfl ?_
    refine awl_val hτ rfl rfl rfl ?_
    refine awl_val hτ rfl rfl rfl ?_
    refine awl_val hτ rfl rfl rfl ?_
    refine awl_val hτ rfl rfl rfl ?_
    refine bnd_elim h fun x96 hx96 h => ?_
    refine bnd_elim h fun x97 hx97 h => ?_
    refine awl_x rfl rfl (x_c2c hτ rfl rfl rfl rfl rfl rfl hx96 hx97) ?_
    refine bnd_elim h fun x98 hx98 h => ?_
    refine awl_need hτ rfl rfl rfl (row_need hx98) ?_
    refine awl_need hτ rfl rfl rfl (len_map _) ?_
    refine awl_need hτ rfl rfl rfl (len_map _) ?_
    refine awl_elemH hτ rfl rfl rfl (len_map _) (row_get hx98) (set_val (f := eSBus) (l := ((((v61.set v63.toNat (SBus.mk v62 x88.Own x88.Shared x88.Kind x88.Load x88.Customers)).set v63.toNat (SBus.mk x91.Parent (Cx.mk x89 x90) x91.Shared x91.Kind x91.Load x91.Customers)).set v63.toNat (SBus.mk x94.Parent x94.Own (Cx.mk x92 x93) x94.Kind x94.Load x94.Customers)).set v63.toNat (SBus.mk x95.Parent x95.Own x95.Shared (w64 ((w64 ((w64 (v62 + (1 : Int))) + (1 : Int))) + (1 : Int))) x95.Load x95.Customers))) (i := v63) (y := (SBus.mk x98.Parent x98.Own x98.Shared x98.Kind (SPhases.mk (Cx.mk x96 x97) x98.Load.B x98.Load.C) x98.Customers)) rfl) ?_
    refine awl_nil ?_
    refine aw_seq ?_
    refine aw_weak (weak_ofP [0] (l := [(0, .row 0 ((((((v61.set v63.toNat (SBus.mk v62 x88.Own x88.Shared x88.Kind x88.Load x88.Customers)).set v63.toNat (SBus.mk x91.Parent (Cx.mk x89 x90) x91.Shared x91.Kind x91.Load x91.Customers)).set v63.toNat (SBus.mk x94.Parent x94.Own (Cx.mk x92 x93) x94.Kind x94.Load x94.Customers)).set v63.toNat (SBus.mk x95.Parent x95.Own x95.Shared (w64 ((w64 ((w64 (v62 + (1 : Int))) + (1 : Int))) + (1 : Int))) x95.Load x95.Customers)).set v63.toNat (SBus.mk x98.Parent x98.Own x98.Shared x98.Kind (SPhases.mk (Cx.mk x96 x97) x98.Load.B x98.Load.C) x98.Customers)).length) 0 ((((((v61.set v63.toNat (SBus.mk v62 x88.Own x88.Shared x88.Kind x88.Load x88.Customers)).set v63.toNat (SBus.mk x91.Parent (Cx.mk x89 x90) x91.Shared x91.Kind x91.Load x91.Customers)).set v63.toNat (SBus.mk x94.Parent x94.Own (Cx.mk x92 x93) x94.Kind x94.Load x94.Customers)).set v63.toNat (SBus.mk x95.Parent x95.Own x95.Shared (w64 ((w64 ((w64 (v62 + (1 : Int))) + (1 : Int))) + (1 : Int))) x95.Load x95.Customers)).set v63.toNat (SBus.mk x98.Parent x98.Own x98.Shared x98.Kind (SPhases.mk (Cx.mk x96 x97) x98.Load.B x98.Load.C) x98.Customers)).length)), (1, .d (.int .i64 (w64 ((w64 ((w64 ((w64 (v62 + (1 : Int))) + (1 : Int))) + (1 : Int))) + (1 : Int))))), (5, .d (.int .i64 v63))]) (objs := [.row 8 ((((((v61.set v63.toNat (SBus.mk v62 x88.Own x88.Shared x88.Kind x88.Load x88.Customers)).set v63.toNat (SBus.mk x91.Parent (Cx.mk x89 x90) x91.Shared x91.Kind x91.Load x91.Customers)).set v63.toNat (SBus.mk x94.Parent x94.Own (Cx.mk x92 x93) x94.Kind x94.Load x94.Customers)).set v63.toNat (SBus.mk x95.Parent x95.Own x95.Shared (w64 ((w64 ((w64 (v62 + (1 : Int))) + (1 : Int))) + (1 : Int))) x95.Load x95.Customers)).set v63.toNat (SBus.mk x98.Parent x98.Own x98.Shared x98.Kind (SPhases.mk (Cx.mk x96 x97) x98.Load.B x98.Load.C) x98.Customers)).map eSBus)]) rfl (by simp) rfl (by repeat' first | exact trivial | refine ⟨?_, ?_⟩) ⟨(exV_rowL rfl (by simp)), trivial, rfl, trivial, rfl, trivial, trivial⟩) ?_
    refine aw_region ?_
    refine awl_val hτ rfl rfl rfl ?_
    refine awl_val hτ rfl rfl rfl ?_
    refine awl_val hτ rfl rfl rfl ?_
    refine awl_nil ?_
    refine aw_seq ?_
    refine aw_region ?_
    refine awl_val hτ rfl rfl rfl ?_
    refine awl_val hτ rfl rfl rfl ?_
    refine awl_val hτ rfl rfl rfl ?_
    refine awl_val hτ rfl rfl rfl ?_
    refine awl_val hτ rfl rfl rfl ?_
    refine bnd_elim h fun x99 hx99 h => ?_
    refine bnd_elim h fun x100 hx100 h => ?_
    refine awl_x rfl rfl (x_c2c hτ rfl rfl rfl rfl rfl rfl hx99 hx100) ?_
    refine bnd_elim h fun x101 hx101 h => ?_
    refine awl_need hτ rfl rfl rfl (row_need hx101) ?_
    refine awl_need hτ rfl rfl rfl (len_map _) ?_
    refine awl_need hτ rfl rfl rfl (len_map _) ?_
    refine awl_elemH hτ rfl rfl rfl (len_map _) (row_get hx101) (set_val (f := eSBus) (l := (((((v61.set v63.toNat (SBus.mk v62 x88.Own x88.Shared x88.Kind x88.Load x88.Customers)).set v63.toNat (SBus.mk x91.Parent (Cx.mk x89 x90) x91.Shared x91.Kind x91.Load x91.Customers)).set v63.toNat (SBus.mk x94.Parent x94.Own (Cx.mk x92 x93) x94.Kind x94.Load x94.Customers)).set v63.toNat (SBus.mk x95.Parent x95.Own x95.Shared (w64 ((w64 ((w64 (v62 + (1 : Int))) + (1 : Int))) + (1 : Int))) x95.Load x95.Customers)).set v63.toNat (SBus.mk x98.Parent x98.Own x98.Shared x98.Kind (SPhases.mk (Cx.mk x96 x97) x98.Load.B x98.Load.C) x98.Customers))) (i := v63) (y := (SBus.mk x101.Parent x101.Own x101.Shared x101.Kind (SPhases.mk x101.Load.A (Cx.mk x99 x100) x101.Load.C) x101.Customers)) rfl) ?_
    refine awl_nil ?_
    refine aw_seq ?_
    refine aw_weak (weak_ofP [0] (l := [(0, .row 0 (((((((v61.set v63.toNat (SBus.mk v62 x88.Own x88.Shared x88.Kind x88.Load x88.Customers)).set v63.toNat (SBus.mk x91.Parent (Cx.mk x89 x90) x91.Shared x91.Kind x91.Load x91.Customers)).set v63.toNat (SBus.mk x94.Parent x94.Own (Cx.mk x92 x93) x94.Kind x94.Load x94.Customers)).set v63.toNat (SBus.mk x95.Parent x95.Own x95.Shared (w64 ((w64 ((w64 (v62 + (1 : Int))) + (1 : Int))) + (1 : Int))) x95.Load x95.Customers)).set v63.toNat (SBus.mk x98.Parent x98.Own x98.Shared x98.Kind (SPhases.mk (Cx.mk x96 x97) x98.Load.B x98.Load.C) x98.Customers)).set v63.toNat (SBus.mk x101.Parent x101.Own x101.Shared x101.Kind (SPhases.mk x101.Load.A (Cx.mk x99 x100) x101.Load.C) x101.Customers)).length) 0 (((((((v61.set v63.toNat (SBus.mk v62 x88.Own x88.Shared x88.Kind x88.Load x88.Customers)).set v63.toNat (SBus.mk x91.Parent (Cx.mk x89 x90) x91.Shared x91.Kind x91.Load x91.Customers)).set v63.toNat (SBus.mk x94.Parent x94.Own (Cx.mk x92 x93) x94.Kind x94.Load x94.Customers)).set v63.toNat (SBus.mk x95.Parent x95.Own x95.Shared (w64 ((w64 ((w64 (v62 + (1 : Int))) + (1 : Int))) + (1 : Int))) x95.Load x95.Customers)).set v63.toNat (SBus.mk x98.Parent x98.Own x98.Shared x98.Kind (SPhases.mk (Cx.mk x96 x97) x98.Load.B x98.Load.C) x98.Customers)).set v63.toNat (SBus.mk x101.Parent x101.Own x101.Shared x101.Kind (SPhases.mk x101.Load.A (Cx.mk x99 x100) x101.Load.C) x101.Customers)).length)), (1, .d (.int .i64 (w64 ((w64 ((w64 ((w64 ((w64 (v62 + (1 : Int))) + (1 : Int))) + (1 : Int))) + (1 : Int))) + (1 : Int))))), (5, .d (.int .i64 v63))]) (objs := [.row 8 (((((((v61.set v63.toNat (SBus.mk v62 x88.Own x88.Shared x88.Kind x88.Load x88.Customers)).set v63.toNat (SBus.mk x91.Parent (Cx.mk x89 x90) x91.Shared x91.Kind x91.Load x91.Customers)).set v63.toNat (SBus.mk x94.Parent x94.Own (Cx.mk x92 x93) x94.Kind x94.Load x94.Customers)).set v63.toNat (SBus.mk x95.Parent x95.Own x95.Shared (w64 ((w64 ((w64 (v62 + (1 : Int))) + (1 : Int))) + (1 : Int))) x95.Load x95.Customers)).set v63.toNat (SBus.mk x98.Parent x98.Own x98.Shared x98.Kind (SPhases.mk (Cx.mk x96 x97) x98.Load.B x98.Load.C) x98.Customers)).set v63.toNat (SBus.mk x101.Parent x101.Own x101.Shared x101.Kind (SPhases.mk x101.Load.A (Cx.mk x99 x100) x101.Load.C) x101.Customers)).map eSBus)]) rfl (by simp) rfl (by repeat' first | exact trivial | refine ⟨?_, ?_⟩) ⟨(exV_rowL rfl (by simp)), trivial, rfl, trivial, rfl, trivial, trivial⟩) ?_
    refine aw_region ?_
    refine awl_val hτ rfl rfl rfl ?_
    refine awl_val hτ rfl rfl rfl ?_
    refine awl_val hτ rfl rfl rfl ?_
    refine awl_nil ?_
    refine aw_seq ?_
    refine aw_region ?_
    refine awl_val hτ rfl rfl rfl ?_
    refine awl_val hτ rfl rfl rfl ?_
    refine awl_val hτ rfl rfl rfl ?_
    refine awl_val hτ rfl rfl rfl ?_
    refine awl_val hτ rfl rfl rfl ?_
    refine bnd_elim h fun x102 hx102 h => ?_
    refine bnd_elim h fun x103 hx103 h => ?_
    refine awl_x rfl rfl (x_c2c hτ rfl rfl rfl rfl rfl rfl hx102 hx103) ?_
    refine bnd_elim h fun x104 hx104 h => ?_
    refine awl_need hτ rfl rfl rfl (row_need hx104) ?_
    refine awl_need hτ rfl rfl rfl (len_map _) ?_
    refine awl_need hτ rfl rfl rfl (len_map _) ?_
    refine awl_elemH hτ rfl rfl rfl (len_map _) (row_get hx104) (set_val (f := eSBus) (l := ((((((v61.set v63.toNat (SBus.mk v62 x88.Own x88.Shared x88.Kind x88.Load x88.Customers)).set v63.toNat (SBus.mk x91.Parent (Cx.mk x89 x90) x91.Shared x91.Kind x91.Load x91.Customers)).set v63.toNat (SBus.mk x94.Parent x94.Own (Cx.mk x92 x93) x94.Kind x94.Load x94.Customers)).set v63.toNat (SBus.mk x95.Parent x95.Own x95.Shared (w64 ((w64 ((w64 (v62 + (1 : Int))) + (1 : Int))) + (1 : Int))) x95.Load x95.Customers)).set v63.toNat (SBus.mk x98.Parent x98.Own x98.Shared x98.Kind (SPhases.mk (Cx.mk x96 x97) x98.Load.B x98.Load.C) x98.Customers)).set v63.toNat (SBus.mk x101.Parent x101.Own x101.Shared x101.Kind (SPhases.mk x101.Load.A (Cx.mk x99 x100) x101.Load.C) x101.Customers))) (i := v63) (y := (SBus.mk x104.Parent x104.Own x104.Shared x104.Kind (SPhases.mk x104.Load.A x104.Load.B (Cx.mk x102 x103)) x104.Customers)) rfl) ?_
    refine awl_nil ?_
    refine aw_seq ?_
    refine aw_weak (weak_ofP [0] (l := [(0, .row 0 ((((((((v61.set v63.toNat (SBus.mk v62 x88.Own x88.Shared x88.Kind x88.Load x88.Customers)).set v63.toNat (SBus.mk x91.Parent (Cx.mk x89 x90) x91.Shared x91.Kind x91.Load x91.Customers)).set v63.toNat (SBus.mk x94.Parent x94.Own (Cx.mk x92 x93) x94.Kind x94.Load x94.Customers)).set v63.toNat (SBus.mk x95.Parent x95.Own x95.Shared (w64 ((w64 ((w64 (v62 + (1 : Int))) + (1 : Int))) + (1 : Int))) x95.Load x95.Customers)).set v63.toNat (SBus.mk x98.Parent x98.Own x98.Shared x98.Kind (SPhases.mk (Cx.mk x96 x97) x98.Load.B x98.Load.C) x98.Customers)).set v63.toNat (SBus.mk x101.Parent x101.Own x101.Shared x101.Kind (SPhases.mk x101.Load.A (Cx.mk x99 x100) x101.Load.C) x101.Customers)).set v63.toNat (SBus.mk x104.Parent x104.Own x104.Shared x104.Kind (SPhases.mk x104.Load.A x104.Load.B (Cx.mk x102 x103)) x104.Customers)).length) 0 ((((((((v61.set v63.toNat (SBus.mk v62 x88.Own x88.Shared x88.Kind x88.Load x88.Customers)).set v63.toNat (SBus.mk x91.Parent (Cx.mk x89 x90) x91.Shared x91.Kind x91.Load x91.Customers)).set v63.toNat (SBus.mk x94.Parent x94.Own (Cx.mk x92 x93) x94.Kind x94.Load x94.Customers)).set v63.toNat (SBus.mk x95.Parent x95.Own x95.Shared (w64 ((w64 ((w64 (v62 + (1 : Int))) + (1 : Int))) + (1 : Int))) x95.Load x95.Customers)).set v63.toNat (SBus.mk x98.Parent x98.Own x98.Shared x98.Kind (SPhases.mk (Cx.mk x96 x97) x98.Load.B x98.Load.C) x98.Customers)).set v63.toNat (SBus.mk x101.Parent x101.Own x101.Shared x101.Kind (SPhases.mk x101.Load.A (Cx.mk x99 x100) x101.Load.C) x101.Customers)).set v63.toNat (SBus.mk x104.Parent x104.Own x104.Shared x104.Kind (SPhases.mk x104.Load.A x104.Load.B (Cx.mk x102 x103)) x104.Customers)).length)), (1, .d (.int .i64 (w64 ((w64 ((w64 ((w64 ((w64 ((w64 (v62 + (1 : Int))) + (1 : Int))) + (1 : Int))) + (1 : Int))) + (1 : Int))) + (1 : Int))))), (5, .d (.int .i64 v63))]) (objs := [.row 8 ((((((((v61.set v63.toNat (SBus.mk v62 x88.Own x88.Shared x88.Kind x88.Load x88.Customers)).set v63.toNat (SBus.mk x91.Parent (Cx.mk x89 x90) x91.Shared x91.Kind x91.Load x91.Customers)).set v63.toNat (SBus.mk x94.Parent x94.Own (Cx.mk x92 x93) x94.Kind x94.Load x94.Customers)).set v63.toNat (SBus.mk x95.Parent x95.Own x95.Shared (w64 ((w64 ((w64 (v62 + (1 : Int))) + (1 : Int))) + (1 : Int))) x95.Load x95.Customers)).set v63.toNat (SBus.mk x98.Parent x98.Own x98.Shared x98.Kind (SPhases.mk (Cx.mk x96 x97) x98.Load.B x98.Load.C) x98.Customers)).set v63.toNat (SBus.mk x101.Parent x101.Own x101.Shared x101.Kind (SPhases.mk x101.Load.A (Cx.mk x99 x100) x101.Load.C) x101.Customers)).set v63.toNat (SBus.mk x104.Parent x104.Own x104.Shared x104.Kind (SPhases.mk x104.Load.A x104.Load.B (Cx.mk x102 x103)) x104.Customers)).map eSBus)]) rfl (by simp) rfl (by repeat' first | exact trivial | refine ⟨?_, ?_⟩) ⟨(exV_rowL rfl (by simp)), trivial, rfl, trivial, rfl, trivial, trivial⟩) ?_
    refine aw_region ?_
    refine awl_val hτ rfl rfl rfl ?_
    refine awl_val hτ rfl rfl rfl ?_
    refine awl_val hτ rfl rfl rfl ?_
    refine awl_nil ?_
    refine aw_seq ?_
    refine aw_region ?_
    refine awl_val hτ rfl rfl rfl ?_
    refine awl_val hτ rfl rfl rfl ?_
    refine awl_val hτ rfl rfl rfl ?_
    refine bnd_elim h fun x105 hx105 h => ?_
    refine awl_need hτ rfl rfl rfl (row_need hx105) ?_
    refine awl_need hτ rfl rfl rfl (len_map _) ?_
    refine awl_elemH hτ rfl rfl rfl (len_map _) (row_get hx105) (set_val (f := eSBus) (l := (((((((v61.set v63.toNat (SBus.mk v62 x88.Own x88.Shared x88.Kind x88.Load x88.Customers)).set v63.toNat (SBus.mk x91.Parent (Cx.mk x89 x90) x91.Shared x91.Kind x91.Load x91.Customers)).set v63.toNat (SBus.mk x94.Parent x94.Own (Cx.mk x92 x93) x94.Kind x94.Load x94.Customers)).set v63.toNat (SBus.mk x95.Parent x95.Own x95.Shared (w64 ((w64 ((w64 (v62 + (1 : Int))) + (1 : Int))) + (1 : Int))) x95.Load x95.Customers)).set v63.toNat (SBus.mk x98.Parent x98.Own x98.Shared x98.Kind (SPhases.mk (Cx.mk x96 x97) x98.Load.B x98.Load.C) x98.Customers)).set v63.toNat (SBus.mk x101.Parent x101.Own x101.Shared x101.Kind (SPhases.mk x101.Load.A (Cx.mk x99 x100) x101.Load.C) x101.Customers)).set v63.toNat (SBus.mk x104.Parent x104.Own x104.Shared x104.Kind (SPhases.mk x104.Load.A x104.Load.B (Cx.mk x102 x103)) x104.Customers))) (i := v63) (y := (SBus.mk x105.Parent x105.Own x105.Shared x105.Kind x105.Load (w64 ((w64 ((w64 ((w64 ((w64 ((w64 ((w64 (v62 + (1 : Int))) + (1 : Int))) + (1 : Int))) + (1 : Int))) + (1 : Int))) + (1 : Int))) + (1 : Int))))) rfl) ?_
    refine awl_nil ?_
    refine aw_weak (weak_ofP [0] (l := [(0, .row 0 (((((((((v61.set v63.toNat (SBus.mk v62 x88.Own x88.Shared x88.Kind x88.Load x88.Customers)).set v63.toNat (SBus.mk x91.Parent (Cx.mk x89 x90) x91.Shared x91.Kind x91.Load x91.Customers)).set v63.toNat (SBus.mk x94.Parent x94.Own (Cx.mk x92 x93) x94.Kind x94.Load x94.Customers)).set v63.toNat (SBus.mk x95.Parent x95.Own x95.Shared (w64 ((w64 ((w64 (v62 + (1 : Int))) + (1 : Int))) + (1 : Int))) x95.Load x95.Customers)).set v63.toNat (SBus.mk x98.Parent x98.Own x98.Shared x98.Kind (SPhases.mk (Cx.mk x96 x97) x98.Load.B x98.Load.C) x98.Customers)).set v63.toNat (SBus.mk x101.Parent x101.Own x101.Shared x101.Kind (SPhases.mk x101.Load.A (Cx.mk x99 x100) x101.Load.C) x101.Customers)).set v63.toNat (SBus.mk x104.Parent x104.Own x104.Shared x104.Kind (SPhases.mk x104.Load.A x104.Load.B (Cx.mk x102 x103)) x104.Customers)).set v63.toNat (SBus.mk x105.Parent x105.Own x105.Shared x105.Kind x105.Load (w64 ((w64 ((w64 ((w64 ((w64 ((w64 ((w64 (v62 + (1 : Int))) + (1 : Int))) + (1 : Int))) + (1 : Int))) + (1 : Int))) + (1 : Int))) + (1 : Int))))).length) 0 (((((((((v61.set v63.toNat (SBus.mk v62 x88.Own x88.Shared x88.Kind x88.Load x88.Customers)).set v63.toNat (SBus.mk x91.Parent (Cx.mk x89 x90) x91.Shared x91.Kind x91.Load x91.Customers)).set v63.toNat (SBus.mk x94.Parent x94.Own (Cx.mk x92 x93) x94.Kind x94.Load x94.Customers)).set v63.toNat (SBus.mk x95.Parent x95.Own x95.Shared (w64 ((w64 ((w64 (v62 + (1 : Int))) + (1 : Int))) + (1 : Int))) x95.Load x95.Customers)).set v63.toNat (SBus.mk x98.Parent x98.Own x98.Shared x98.Kind (SPhases.mk (Cx.mk x96 x97) x98.Load.B x98.Load.C) x98.Customers)).set v63.toNat (SBus.mk x101.Parent x101.Own x101.Shared x101.Kind (SPhases.mk x101.Load.A (Cx.mk x99 x100) x101.Load.C) x101.Customers)).set v63.toNat (SBus.mk x104.Parent x104.Own x104.Shared x104.Kind (SPhases.mk x104.Load.A x104.Load.B (Cx.mk x102 x103)) x104.Customers)).set v63.toNat (SBus.mk x105.Parent x105.Own x105.Shared x105.Kind x105.Load (w64 ((w64 ((w64 ((w64 ((w64 ((w64 ((w64 (v62 + (1 : Int))) + (1 : Int))) + (1 : Int))) + (1 : Int))) + (1 : Int))) + (1 : Int))) + (1 : Int))))).length)), (1, .d (.int .i64 (w64 ((w64 ((w64 ((w64 ((w64 ((w64 ((w64 (v62 + (1 : Int))) + (1 : Int))) + (1 : Int))) + (1 : Int))) + (1 : Int))) + (1 : Int))) + (1 : Int))))), (5, .d (.int .i64 v63))]) (objs := [.row 8 (((((((((v61.set v63.toNat (SBus.mk v62 x88.Own x88.Shared x88.Kind x88.Load x88.Customers)).set v63.toNat (SBus.mk x91.Parent (Cx.mk x89 x90) x91.Shared x91.Kind x91.Load x91.Customers)).set v63.toNat (SBus.mk x94.Parent x94.Own (Cx.mk x92 x93) x94.Kind x94.Load x94.Customers)).set v63.toNat (SBus.mk x95.Parent x95.Own x95.Shared (w64 ((w64 ((w64 (v62 + (1 : Int))) + (1 : Int))) + (1 : Int))) x95.Load x95.Customers)).set v63.toNat (SBus.mk x98.Parent x98.Own x98.Shared x98.Kind (SPhases.mk (Cx.mk x96 x97) x98.Load.B x98.Load.C) x98.Customers)).set v63.toNat (SBus.mk x101.Parent x101.Own x101.Shared x101.Kind (SPhases.mk x101.Load.A (Cx.mk x99 x100) x101.Load.C) x101.Customers)).set v63.toNat (SBus.mk x104.Parent x104.Own x104.Shared x104.Kind (SPhases.mk x104.Load.A x104.Load.B (Cx.mk x102 x103)) x104.Customers)).set v63.toNat (SBus.mk x105.Parent x105.Own x105.Shared x105.Kind x105.Load (w64 ((w64 ((w64 ((w64 ((w64 ((w64 ((w64 (v62 + (1 : Int))) + (1 : Int))) + (1 : Int))) + (1 : Int))) + (1 : Int))) + (1 : Int))) + (1 : Int))))).map eSBus)]) rfl (by simp) rfl (by repeat' first | exact trivial | refine ⟨?_, ?_⟩) ⟨(exV_rowL rfl (by simp)), trivial, rfl, trivial, rfl, trivial, trivial⟩) ?_
    refine aw_region ?_
    refine awl_val hτ rfl rfl rfl ?_
    refine awl_val hτ rfl rfl rfl ?_
    refine awl_val hτ rfl rfl rfl ?_
    refine awl_nil ?_
    refine aw_region ?_
    refine awl_val hτ rfl rfl rfl ?_
    refine awl_val hτ rfl rfl rfl ?_
    refine awl_val hτ rfl rfl rfl ?_
    refine awl_nil ?_
    exact ⟨(m85, ((((((((v61.set v63.toNat (SBus.mk v62 x88.Own x88.Shared x88.Kind x88.Load x88.Customers)).set v63.toNat (SBus.mk x91.Parent (Cx.mk x89 x90) x91.Shared x91.Kind x91.Load x91.Customers)).set v63.toNat (SBus.mk x94.Parent x94.Own (Cx.mk x92 x93) x94.Kind x94.Load x94.Customers)).set v63.toNat (SBus.mk x95.Parent x95.Own x95.Shared (w64 ((w64 ((w64 (v62 + (1 : Int))) + (1 : Int))) + (1 : Int))) x95.Load x95.Customers)).set v63.toNat (SBus.mk x98.Parent x98.Own x98.Shared x98.Kind (SPhases.mk (Cx.mk x96 x97) x98.Load.B x98.Load.C) x98.Customers)).set v63.toNat (SBus.mk x101.Parent x101.Own x101.Shared x101.Kind (SPhases.mk x101.Load.A (Cx.mk x99 x100) x101.Load.C) x101.Customers)).set v63.toNat (SBus.mk x104.Parent x104.Own x104.Shared x104.Kind (SPhases.mk x104.Load.A x104.Load.B (Cx.mk x102 x103)) x104.Customers)).set v63.toNat (SBus.mk x105.Parent x105.Own x105.Shared x105.Kind x105.Load (w64 ((w64 ((w64 ((w64 ((w64 ((w64 ((w64 (v62 + (1 : Int))) + (1 : Int))) + (1 : Int))) + (1 : Int))) + (1 : Int))) + (1 : Int))) + (1 : Int))))), (w64 ((w64 ((w64 ((w64 ((w64 ((w64 ((w64 ((w64 (v62 + (1 : Int))) + (1 : Int))) + (1 : Int))) + (1 : Int))) + (1 : Int))) + (1 : Int))) + (1 : Int))) + (1 : Int))), (w64 (v63 + (1 : Int)))), h, Nat.lt_succ_self m85, (weak_ofP [0] (l := [(0, .row 0 (((((((((v61.set v63.toNat (SBus.mk v62 x88.Own x88.Shared x88.Kind x88.Load x88.Customers)).set v63.toNat (SBus.mk x91.Parent (Cx.mk x89 x90) x91.Shared x91.Kind x91.Load x91.Customers)).set v63.toNat (SBus.mk x94.Parent x94.Own (Cx.mk x92 x93) x94.Kind x94.Load x94.Customers)).set v63.toNat (SBus.mk x95.Parent x95.Own x95.Shared (w64 ((w64 ((w64 (v62 + (1 : Int))) + (1 : Int))) + (1 : Int))) x95.Load x95.Customers)).set v63.toNat (SBus.mk x98.Parent x98.Own x98.Shared x98.Kind (SPhases.mk (Cx.mk x96 x97) x98.Load.B x98.Load.C) x98.Customers)).set v63.toNat (SBus.mk x101.Parent x101.Own x101.Shared x101.Kind (SPhases.mk x101.Load.A (Cx.mk x99 x100) x101.Load.C) x101.Customers)).set v63.toNat (SBus.mk x104.Parent x104.Own x104.Shared x104.Kind (SPhases.mk x104.Load.A x104.Load.B (Cx.mk x102 x103)) x104.Customers)).set v63.toNat (SBus.mk x105.Parent x105.Own x105.Shared x105.Kind x105.Load (w64 ((w64 ((w64 ((w64 ((w64 ((w64 ((w64 (v62 + (1 : Int))) + (1 : Int))) + (1 : Int))) + (1 : Int))) + (1 : Int))) + (1 : Int))) + (1 : Int))))).length) 0 (((((((((v61.set v63.toNat (SBus.mk v62 x88.Own x88.Shared x88.Kind x88.Load x88.Customers)).set v63.toNat (SBus.mk x91.Parent (Cx.mk x89 x90) x91.Shared x91.Kind x91.Load x91.Customers)).set v63.toNat (SBus.mk x94.Parent x94.Own (Cx.mk x92 x93) x94.Kind x94.Load x94.Customers)).set v63.toNat (SBus.mk x95.Parent x95.Own x95.Shared (w64 ((w64 ((w64 (v62 + (1 : Int))) + (1 : Int))) + (1 : Int))) x95.Load x95.Customers)).set v63.toNat (SBus.mk x98.Parent x98.Own x98.Shared x98.Kind (SPhases.mk (Cx.mk x96 x97) x98.Load.B x98.Load.C) x98.Customers)).set v63.toNat (SBus.mk x101.Parent x101.Own x101.Shared x101.Kind (SPhases.mk x101.Load.A (Cx.mk x99 x100) x101.Load.C) x101.Customers)).set v63.toNat (SBus.mk x104.Parent x104.Own x104.Shared x104.Kind (SPhases.mk x104.Load.A x104.Load.B (Cx.mk x102 x103)) x104.Customers)).set v63.toNat (SBus.mk x105.Parent x105.Own x105.Shared x105.Kind x105.Load (w64 ((w64 ((w64 ((w64 ((w64 ((w64 ((w64 (v62 + (1 : Int))) + (1 : Int))) + (1 : Int))) + (1 : Int))) + (1 : Int))) + (1 : Int))) + (1 : Int))))).length)), (1, .d (.int .i64 (w64 ((w64 ((w64 ((w64 ((w64 ((w64 ((w64 ((w64 (v62 + (1 : Int))) + (1 : Int))) + (1 : Int))) + (1 : Int))) + (1 : Int))) + (1 : Int))) + (1 : Int))) + (1 : Int))))), (5, .d (.int .i64 (w64 (v63 + (1 : Int)))))]) (objs := [.row 8 (((((((((v61.set v63.toNat (SBus.mk v62 x88.Own x88.Shared x88.Kind x88.Load x88.Customers)).set v63.toNat (SBus.mk x91.Parent (Cx.mk x89 x90) x91.Shared x91.Kind x91.Load x91.Customers)).set v63.toNat (SBus.mk x94.Parent x94.Own (Cx.mk x92 x93) x94.Kind x94.Load x94.Customers)).set v63.toNat (SBus.mk x95.Parent x95.Own x95.Shared (w64 ((w64 ((w64 (v62 + (1 : Int))) + (1 : Int))) + (1 : Int))) x95.Load x95.Customers)).set v63.toNat (SBus.mk x98.Parent x98.Own x98.Shared x98.Kind (SPhases.mk (Cx.mk x96 x97) x98.Load.B x98.Load.C) x98.Customers)).set v63.toNat (SBus.mk x101.Parent x101.Own x101.Shared x101.Kind (SPhases.mk x101.Load.A (Cx.mk x99 x100) x101.Load.C) x101.Customers)).set v63.toNat (SBus.mk x104.Parent x104.Own x104.Shared x104.Kind (SPhases.mk x104.Load.A x104.Load.B (Cx.mk x102 x103)) x104.Customers)).set v63.toNat (SBus.mk x105.Parent x105.Own x105.Shared x105.Kind x105.Load (w64 ((w64 ((w64 ((w64 ((w64 ((w64 ((w64 (v62 + (1 : Int))) + (1 : Int))) + (1 : Int))) + (1 : Int))) + (1 : Int))) + (1 : Int))) + (1 : Int))))).map eSBus)]) rfl (by simp) rfl (by repeat' first | exact trivial | refine ⟨?_, ?_⟩) ⟨rfl, trivial, rfl, trivial, rfl, trivial, trivial⟩)⟩
  · have h := if_f h hc87
    refine aw_exit ?_
    refine aw_seq ?_
    refine aw_region ?_
    refine awl_val hτ rfl rfl rfl ?_
    refine awl_val hτ rfl rfl rfl ?_
    refine awl_nil ?_
    refine aw_weak (weak_ofP [0] (l := [(4, .d (.int .i64 v62))]) (objs := [.row 8 (v61.map eSBus)]) rfl (by simp) rfl (by repeat' first | exact trivial | refine ⟨?_, ?_⟩) ⟨rfl, trivial, trivial⟩) ?_
    refine aw_ret ?_
    have hr := Option.some.inj h
    subst hr
    exact ret_objs (.inr rfl) [] (objs' := [.row 8 (v61.map eSBus)]) (new := []) rfl (by simp) (by simp) rfl (by repeat' first | exact trivial | refine ⟨?_, ?_⟩) rfl rfl (by repeat' first | exact trivial | refine ⟨?_, ?_⟩) (fun _ => ⟨by simp [V.flat, V.flatA, V.flatC, D.flat], (flat_cons (flat_row eSBus_flat _) flat_nil)⟩) ⟨rfl, rfl, rfl⟩
theorem laws_markBusS_ok (n : Nat) (a_ : List SBus) (k_ : Int) {r : Int × List SBus} (h : m_laws_markBusS n a_ k_ = some r) : ACall prog false 170 [.row 0 a_.length 0 a_.length, .d (.int .i64 k_)] [.row 8 (a_.map eSBus)] (fun v o new => v = .d (.int .i64 r.1) ∧ o = [.row 8 (r.2.map eSBus)] ∧ new = []) := laws_markBusS_ok_fr0 false n a_ k_ h
theorem laws_markBusS_ok_fr (n : Nat) (a_ : List SBus) (k_ : Int) {r : Int × List SBus} (h : m_laws_markBusS n a_ k_ = some r) : ACall prog true 170 [.row 0 a_.length 0 a_.length, .d (.int .i64 k_)] [.row 8 (a_.map eSBus)] (fun v o new => v = .d (.int .i64 r.1) ∧ o = [.row 8 (r.2.map eSBus)] ∧ new = []) := laws_markBusS_ok_fr0 true n a_ k_ h

def m_laws_markFeeder (n : Nat) (a_ : SFeeder) (k_ : Int) : Option (Int × List SBus) :=
  (m_laws_markBusS n a_.Buses k_).bind fun x3 =>
  grd (x3.2.length = a_.Buses.length) <|
  some (x3.1, x3.2)
theorem laws_markFeeder_ok_fr0 (fr : Bool) (n : Nat) (a_ : SFeeder) (k_ : Int) {r : Int × List SBus} (h : m_laws_markFeeder n a_ k_ = some r) : ACall prog fr 114 [.agg [.d (.cx .f32 a_.Source.A.re a_.Source.A.im), .d (.cx .f32 a_.Source.B.re a_.Source.B.im), .d (.cx .f32 a_.Source.C.re a_.Source.C.im), .row 0 a_.Buses.length 0 a_.Buses.length], .d (.int .i64 k_)] [.row 8 (a_.Buses.map eSBus)] (fun v o new => v = .d (.int .i64 r.1) ∧ o = [.row 8 (r.2.map eSBus)] ∧ new = []) := by
  refine acall_of_aw hτ func114 rfl (by simp) (by simp) ?_
  unfold m_laws_markFeeder at h
  refine aw_seq ?_
  refine aw_region ?_
  refine awl_valH hτ rfl rfl rfl ?_
  refine awl_val hτ rfl rfl rfl ?_
  refine awl_nil ?_
  refine aw_seq ?_
  refine aw_region ?_
  refine awl_val hτ rfl rfl rfl ?_
  refine awl_val hτ rfl rfl rfl ?_
  refine awl_val hτ rfl rfl rfl ?_
  refine bnd_elim h fun x3 hx3 h => ?_
  refine awl_callP hτ false [0] rfl rfl rfl (enterOk func170 rfl rfl) rfl rfl (by simp) ⟨trivial, trivial, trivial⟩ (by repeat' first | exact trivial | refine ⟨?_, ?_⟩) (laws_markBusS_ok n a_.Buses k_ hx3) ?_
  rintro r0 o0 n0 ⟨rfl, rfl, rfl⟩ -
  refine grd_elim h fun hg4 h => ?_
  refine awl_val hτ rfl rfl rfl ?_
  refine awl_nil ?_
  refine aw_seq ?_
  refine aw_weak (weak_ofP [0] (l := [(1, .d (.int .i64 x3.1))]) (objs := [.row 8 (x3.2.map eSBus)]) rfl (by simp) rfl (by repeat' first | exact trivial | refine ⟨?_, ?_⟩) ⟨rfl, trivial, trivial⟩) ?_
  refine aw_region ?_
  refine awl_val hτ rfl rfl rfl ?_
  refine awl_val hτ rfl rfl rfl ?_
  refine awl_nil ?_
  refine aw_weak (weak_ofP [0] (l := [(4, .d (.int .i64 x3.1))]) (objs := [.row 8 (x3.2.map eSBus)]) rfl (by simp) rfl (by repeat' first | exact trivial | refine ⟨?_, ?_⟩) ⟨rfl, trivial, trivial⟩) ?_
  refine aw_ret ?_
  have hr := Option.some.inj h
  subst hr
  exact ret_objs (.inr rfl) [] (objs' := [.row 8 (x3.2.map eSBus)]) (new := []) rfl (by simp) (by simp) rfl (by repeat' first | exact trivial | refine ⟨?_, ?_⟩) rfl rfl (by repeat' first | exact trivial | refine ⟨?_, ?_⟩) (fun _ => ⟨by simp [V.flat, V.flatA, V.flatC, D.flat], (flat_cons (flat_row eSBus_flat _) flat_nil)⟩) ⟨rfl, rfl, rfl⟩
theorem laws_markFeeder_ok (n : Nat) (a_ : SFeeder) (k_ : Int) {r : Int × List SBus} (h : m_laws_markFeeder n a_ k_ = some r) : ACall prog false 114 [.agg [.d (.cx .f32 a_.Source.A.re a_.Source.A.im), .d (.cx .f32 a_.Source.B.re a_.Source.B.im), .d (.cx .f32 a_.Source.C.re a_.Source.C.im), .row 0 a_.Buses.length 0 a_.Buses.length], .d (.int .i64 k_)] [.row 8 (a_.Buses.map eSBus)] (fun v o new => v = .d (.int .i64 r.1) ∧ o = [.row 8 (r.2.map eSBus)] ∧ new = []) := laws_markFeeder_ok_fr0 false n a_ k_ h
theorem laws_markFeeder_ok_fr (n : Nat) (a_ : SFeeder) (k_ : Int) {r : Int × List SBus} (h : m_laws_markFeeder n a_ k_ = some r) : ACall prog true 114 [.agg [.d (.cx .f32 a_.Source.A.re a_.Source.A.im), .d (.cx .f32 a_.Source.B.re a_.Source.B.im), .d (.cx .f32 a_.Source.C.re a_.Source.C.im), .row 0 a_.Buses.length 0 a_.Buses.length], .d (.int .i64 k_)] [.row 8 (a_.Buses.map eSBus)] (fun v o new => v = .d (.int .i64 r.1) ∧ o = [.row 8 (r.2.map eSBus)] ∧ new = []) := laws_markFeeder_ok_fr0 true n a_ k_ h

def m_laws_markTapS_l1 (n : Nat) : Nat → List STap → Int → Int → Option (Int × List STap)
  | 0, _, _, _ => none
  | m33 + 1, v22, v23, v24 =>
    if v24 < (v22.length : Int) then
      (getI v22 v24).bind fun x36 =>
      (getI (v22.set v24.toNat (STap.mk v23 x36.A x36.B x36.C x36.Each)) v24).bind fun x37 =>
      (getI ((v22.set v24.toNat (STap.mk v23 x36.A x36.B x36.C x36.Each)).set v24.toNat (STap.mk x37.Bus (w64 (v23 + (1 : Int))) x37.B x37.C x37.Each)) v24).bind fun x38 =>
      (getI (((v22.set v24.toNat (STap.mk v23 x36.A x36.B x36.C x36.Each)).set v24.toNat (STap.mk x37.Bus (w64 (v23 + (1 : Int))) x37.B x37.C x37.Each)).set v24.toNat (STap.mk x38.Bus x38.A (w64 ((w64 (v23 + (1 : Int))) + (1 : Int))) x38.C x38.Each)) v24).bind fun x39 =>
      (getI ((((v22.set v24.toNat (STap.mk v23 x36.A x36.B x36.C x36.Each)).set v24.toNat (STap.mk x37.Bus (w64 (v23 + (1 : Int))) x37.B x37.C x37.Each)).set v24.toNat (STap.mk x38.Bus x38.A (w64 ((w64 (v23 + (1 : Int))) + (1 : Int))) x38.C x38.Each)).set v24.toNat (STap.mk x39.Bus x39.A x39.B (w64 ((w64 ((w64 (v23 + (1 : Int))) + (1 : Int))) + (1 : Int))) x39.Each)) v24).bind fun x40 =>
      (m_laws_markTapS_l1 n m33) (((((v22.set v24.toNat (STap.mk v23 x36.A x36.B x36.C x36.Each)).set v24.toNat (STap.mk x37.Bus (w64 (v23 + (1 : Int))) x37.B x37.C x37.Each)).set v24.toNat (STap.mk x38.Bus x38.A (w64 ((w64 (v23 + (1 : Int))) + (1 : Int))) x38.C x38.Each)).set v24.toNat (STap.mk x39.Bus x39.A x39.B (w64 ((w64 ((w64 (v23 + (1 : Int))) + (1 : Int))) + (1 : Int))) x39.Each)).set v24.toNat (STap.mk x40.Bus x40.A x40.B x40.C (FloatKind.nearest .f32 (w64 ((w64 ((w64 ((w64 (v23 + (1 : Int))) + (1 : Int))) + (1 : Int))) + (1 : Int)))))) (w64 ((w64 ((w64 ((w64 ((w64 (v23 + (1 : Int))) + (1 : Int))) + (1 : Int))) + (1 : Int))) + (1 : Int))) (w64 (v24 + (1 : Int)))
    else
      some (v23, v22)
def m_laws_markTapS (n : Nat) (a_ : List STap) (k_ : Int) : Option (Int × List STap) :=
  m_laws_markTapS_l1 n n a_ k_ (0 : Int)
theorem laws_markTapS_ok_fr0 (fr : Bool) (n : Nat) (a_ : List STap) (k_ : Int) {r : Int × List STap} (h : m_laws_markTapS n a_ k_ = some r) : ACall prog fr 115 [.row 0 a_.length 0 a_.length, .d (.int .i64 k_)] [.row 5 (a_.map eSTap)] (fun v o new => v = .d (.int .i64 r.1) ∧ o = [.row 5 (r.2.map eSTap)] ∧ new = []) := by
  refine acall_of_aw hτ func115 rfl (by simp) (by simp) ?_
  unfold m_laws_markTapS at h
  refine aw_seq ?_
  refine aw_region ?_
  refine awl_val hτ rfl rfl rfl ?_
  refine awl_nil ?_
  refine aw_seq ?_
  refine aw_seq ?_
  refine aw_region ?_
  refine awl_val hτ rfl rfl rfl ?_
  refine awl_nil ?_
  refine aw_block ?_
  refine aw_loop (ι := Nat × List STap × Int × Int) (fun (m33, v22, v23, v24) => St.of [(0, .row 0 v22.length 0 v22.length), (1, .d (.int .i64 v23)), (5, .d (.int .i64 v24))] [.row 5 (v22.map eSTap)] f115.ntmps 1) (fun (m33, v22, v23, v24) => m_laws_markTapS_l1 n m33 v22 v23 v24 = some r) (fun x => x.1) (n, a_, k_, (0 : Int)) h (weak_ofP [0] (l := [(0, .row 0 a_.length 0 a_.length), (1, .d (.int .i64 k_)), (5, .d (.int .i64 (0 : Int)))]) (objs := [.row 5 (a_.map eSTap)]) rfl (by simp) rfl (by repeat' first | exact trivial | refine ⟨?_, ?_⟩) ⟨rfl, trivial, rfl, trivial, rfl, trivial, trivial⟩) ?_
  rintro ⟨m33, v22, v23, v24⟩ h
  replace h : m_laws_markTapS_l1 n m33 v22 v23 v24 = some r := h
  rcases m33 with _ | m33
  · rw [m_laws_markTapS_l1] at h; cases h
  rw [m_laws_markTapS_l1] at h
  refine aw_seq ?_
  refine aw_seq ?_
  refine aw_region ?_
  refine awl_val hτ rfl rfl rfl ?_
  refine awl_val hτ rfl rfl rfl ?_
  refine awl_need hτ rfl rfl rfl (len_map _) ?_
  refine awl_val hτ rfl rfl rfl ?_
  refine awl_nil ?_
  refine aw_cond rfl (fun hc35 => ?_) (fun hc35 => ?_)
  · have h := if_t h hc35
    refine aw_skip ?_
    refine aw_seq ?_
    refine aw_block ?_
    refine aw_seq ?_
    refine aw_region ?_
    refine awl_val hτ rfl rfl rfl ?_
    refine awl_val hτ rfl rfl rfl ?_
    refine awl_val hτ rfl rfl rfl ?_
    refine bnd_elim h fun x36 hx36 h => ?_
    refine awl_need hτ rfl rfl rfl (row_need hx36) ?_
    refine awl_need hτ rfl rfl rfl (len_map _) ?_
    refine awl_elemH hτ rfl rfl rfl (len_map _) (row_get hx36) (set_val (f := eSTap) (l := v22) (i := v24) (y := (STap.mk v23 x36.A x36.B x36.C x36.Each)) rfl) ?_
    refine awl_nil ?_
    refine aw_seq ?_
    refine aw_weak (weak_ofP [0] (l := [(0, .row 0 ((v22.set v24.toNat (STap.mk v23 x36.A x36.B x36.C x36.Each)).length) 0 ((v22.set v24.toNat (STap.mk v23 x36.A x36.B x36.C x36.Each)).length)), (1, .d (.int .i64 v23)), (5, .d (.int .i64 v24))]) (objs := [.row 5 ((v22.set v24.toNat (STap.mk v23 x36.A x36.B x36.C x36.Each)).map eSTap)]) rfl (by simp) rfl (by repeat' first | exact trivial | refine ⟨?_, ?_⟩) ⟨(exV_rowL rfl (by simp)), trivial, rfl, trivial, rfl, trivial, trivial⟩) ?_
    refine aw_region ?_
    refine awl_val hτ rfl rfl rfl ?_
    refine awl_val hτ rfl rfl rfl ?_
    refine awl_val hτ rfl rfl rfl ?_
    refine awl_nil ?_
    refine aw_seq ?_
    refine aw_region ?_
    refine awl_val hτ rfl rfl rfl ?_
    refine awl_val hτ rfl rfl rfl ?_
    refine awl_val hτ rfl rfl rfl ?_
    refine bnd_elim h fun x37 hx37 h => ?_
    refine awl_need hτ rfl rfl rfl (row_need hx37) ?_
    refine awl_need hτ rfl rfl rfl (len_map _) ?_
    refine awl_elemH hτ rfl rfl rfl (len_map _) (row_get hx37) (set_val (f := eSTap) (l := (v22.set v24.toNat (STap.mk v23 x36.A x36.B x36.C x36.Each))) (i := v24) (y := (STap.mk x37.Bus (w64 (v23 + (1 : Int))) x37.B x37.C x37.Each)) rfl) ?_
    refine awl_nil ?_
    refine aw_seq ?_
    refine aw_weak (weak_ofP [0] (l := [(0, .row 0 (((v22.set v24.toNat (STap.mk v23 x36.A x36.B x36.C x36.Each)).set v24.toNat (STap.mk x37.Bus (w64 (v23 + (1 : Int))) x37.B x37.C x37.Each)).length) 0 (((v22.set v24.toNat (STap.mk v23 x36.A x36.B x36.C x36.Each)).set v24.toNat (STap.mk x37.Bus (w64 (v23 + (1 : Int))) x37.B x37.C x37.Each)).length)), (1, .d (.int .i64 (w64 (v23 + (1 : Int))))), (5, .d (.int .i64 v24))]) (objs := [.row 5 (((v22.set v24.toNat (STap.mk v23 x36.A x36.B x36.C x36.Each)).set v24.toNat (STap.mk x37.Bus (w64 (v23 + (1 : Int))) x37.B x37.C x37.Each)).map eSTap)]) rfl (by simp) rfl (by repeat' first | exact trivial | refine ⟨?_, ?_⟩) ⟨(exV_rowL rfl (by simp)), trivial, rfl, trivial, rfl, trivial, trivial⟩) ?_
    refine aw_region ?_
    refine awl_val hτ rfl rfl rfl ?_
    refine awl_val hτ rfl rfl rfl ?_
    refine awl_val hτ rfl rfl rfl ?_
    refine awl_nil ?_
    refine aw_seq ?_
    refine aw_region ?_
    refine awl_val hτ rfl rfl rfl ?_
    refine awl_val hτ rfl rfl rfl ?_
    refine awl_val hτ rfl rfl rfl ?_
    refine bnd_elim h fun x38 hx38 h => ?_
    refine awl_need hτ rfl rfl rfl (row_need hx38) ?_
    refine awl_need hτ rfl rfl rfl (len_map _) ?_
    refine awl_elemH hτ rfl rfl rfl (len_map _) (row_get hx38) (set_val (f := eSTap) (l := ((v22.set v24.toNat (STap.mk v23 x36.A x36.B x36.C x36.Each)).set v24.toNat (STap.mk x37.Bus (w64 (v23 + (1 : Int))) x37.B x37.C x37.Each))) (i := v24) (y := (STap.mk x38.Bus x38.A (w64 ((w64 (v23 + (1 : Int))) + (1 : Int))) x38.C x38.Each)) rfl) ?_
    refine awl_nil ?_
    refine aw_seq ?_
    refine aw_weak (weak_ofP [0] (l := [(0, .row 0 ((((v22.set v24.toNat (STap.mk v23 x36.A x36.B x36.C x36.Each)).set v24.toNat (STap.mk x37.Bus (w64 (v23 + (1 : Int))) x37.B x37.C x37.Each)).set v24.toNat (STap.mk x38.Bus x38.A (w64 ((w64 (v23 + (1 : Int))) + (1 : Int))) x38.C x38.Each)).length) 0 ((((v22.set v24.toNat (STap.mk v23 x36.A x36.B x36.C x36.Each)).set v24.toNat (STap.mk x37.Bus (w64 (v23 + (1 : Int))) x37.B x37.C x37.Each)).set v24.toNat (STap.mk x38.Bus x38.A (w64 ((w64 (v23 + (1 : Int))) + (1 : Int))) x38.C x38.Each)).length)), (1, .d (.int .i64 (w64 ((w64 (v23 + (1 : Int))) + (1 : Int))))), (5, .d (.int .i64 v24))]) (objs := [.row 5 ((((v22.set v24.toNat (STap.mk v23 x36.A x36.B x36.C x36.Each)).set v24.toNat (STap.mk x37.Bus (w64 (v23 + (1 : Int))) x37.B x37.C x37.Each)).set v24.toNat (STap.mk x38.Bus x38.A (w64 ((w64 (v23 + (1 : Int))) + (1 : Int))) x38.C x38.Each)).map eSTap)]) rfl (by simp) rfl (by repeat' first | exact trivial | refine ⟨?_, ?_⟩) ⟨(exV_rowL rfl (by simp)), trivial, rfl, trivial, rfl, trivial, trivial⟩) ?_
    refine aw_region ?_
    refine awl_val hτ rfl rfl rfl ?_
    refine awl_val hτ rfl rfl rfl ?_
    refine awl_val hτ rfl rfl rfl ?_
    refine awl_nil ?_
    refine aw_seq ?_
    refine aw_region ?_
    refine awl_val hτ rfl rfl rfl ?_
    refine awl_val hτ rfl rfl rfl ?_
    refine awl_val hτ rfl rfl rfl ?_
    refine bnd_elim h fun x39 hx39 h => ?_
    refine awl_need hτ rfl rfl rfl (row_need hx39) ?_
    refine awl_need hτ rfl rfl rfl (len_map _) ?_
    refine awl_elemH hτ rfl rfl rfl (len_map _) (row_get hx39) (set_val (f := eSTap) (l := (((v22.set v24.toNat (STap.mk v23 x36.A x36.B x36.C x36.Each)).set v24.toNat (STap.mk x37.Bus (w64 (v23 + (1 : Int))) x37.B x37.C x37.Each)).set v24.toNat (STap.mk x38.Bus x38.A (w64 ((w64 (v23 + (1 : Int))) + (1 : Int))) x38.C x38.Each))) (i := v24) (y := (STap.mk x39.Bus x39.A x39.B (w64 ((w64 ((w64 (v23 + (1 : Int))) + (1 : Int))) + (1 : Int))) x39.Each)) rfl) ?_
    refine awl_nil ?_
    refine aw_seq ?_
    refine aw_weak (weak_ofP [0] (l := [(0, .row 0 (((((v22.set v24.toNat (STap.mk v23 x36.A x36.B x36.C x36.Each)).set v24.toNat (STap.mk x37.Bus (w64 (v23 + (1 : Int))) x37.B x37.C x37.Each)).set v24.toNat (STap.mk x38.Bus x38.A (w64 ((w64 (v23 + (1 : Int))) + (1 : Int))) x38.C x38.Each)).set v24.toNat (STap.mk x39.Bus x39.A x39.B (w64 ((w64 ((w64 (v23 + (1 : Int))) + (1 : Int))) + (1 : Int))) x39.Each)).length) 0 (((((v22.set v24.toNat (STap.mk v23 x36.A x36.B x36.C x36.Each)).set v24.toNat (STap.mk x37.Bus (w64 (v23 + (1 : Int))) x37.B x37.C x37.Each)).set v24.toNat (STap.mk x38.Bus x38.A (w64 ((w64 (v23 + (1 : Int))) + (1 : Int))) x38.C x38.Each)).set v24.toNat (STap.mk x39.Bus x39.A x39.B (w64 ((w64 ((w64 (v23 + (1 : Int))) + (1 : Int))) + (1 : Int))) x39.Each)).length)), (1, .d (.int .i64 (w64 ((w64 ((w64 (v23 + (1 : Int))) + (1 : Int))) + (1 : Int))))), (5, .d (.int .i64 v24))]) (objs := [.row 5 (((((v22.set v24.toNat (STap.mk v23 x36.A x36.B x36.C x36.Each)).set v24.toNat (STap.mk x37.Bus (w64 (v23 + (1 : Int))) x37.B x37.C x37.Each)).set v24.toNat (STap.mk x38.Bus x38.A (w64 ((w64 (v23 + (1 : Int))) + (1 : Int))) x38.C x38.Each)).set v24.toNat (STap.mk x39.Bus x39.A x39.B (w64 ((w64 ((w64 (v23 + (1 : Int))) + (1 : Int))) + (1 : Int))) x39.Each)).map eSTap)]) rfl (by simp) rfl (by repeat' first | exact trivial | refine ⟨?_, ?_⟩) ⟨(exV_rowL rfl (by simp)), trivial, rfl, trivial, rfl, trivial, trivial⟩) ?_
    refine aw_region ?_
    refine awl_val hτ rfl rfl rfl ?_
    refine awl_val hτ rfl rfl rfl ?_
    refine awl_val hτ rfl rfl rfl ?_
    refine awl_nil ?_
    refine aw_seq ?_
    refine aw_region ?_
    refine awl_val hτ rfl rfl rfl ?_
    refine awl_val hτ rfl rfl rfl ?_
    refine awl_val hτ rfl rfl rfl ?_
    refine awl_val hτ rfl rfl rfl ?_
    refine bnd_elim h fun x40 hx40 h => ?_
    refine awl_need hτ rfl rfl rfl (row_need hx40) ?_
    refine awl_need hτ rfl rfl rfl (len_map _) ?_
    refine awl_elemH hτ rfl rfl rfl (len_map _) (row_get hx40) (set_val (f := eSTap) (l := ((((v22.set v24.toNat (STap.mk v23 x36.A x36.B x36.C x36.Each)).set v24.toNat (STap.mk x37.Bus (w64 (v23 + (1 : Int))) x37.B x37.C x37.Each)).set v24.toNat (STap.mk x38.Bus x38.A (w64 ((w64 (v23 + (1 : Int))) + (1 : Int))) x38.C x38.Each)).set v24.toNat (STap.mk x39.Bus x39.A x39.B (w64 ((w64 ((w64 (v23 + (1 : Int))) + (1 : Int))) + (1 : Int))) x39.Each))) (i := v24) (y := (STap.mk x40.Bus x40.A x40.B x40.C (FloatKind.nearest .f32 (w64 ((w64 ((w64 ((w64 (v23 + (1 : Int))) + (1 : Int))) + (1 : Int))) + (1 : Int)))))) rfl) ?_
    refine awl_nil ?_
    refine aw_weak (weak_ofP [0] (l := [(0, .row 0 ((((((v22.set v24.toNat (STap.mk v23 x36.A x36.B x36.C x36.Each)).set v24.toNat (STap.mk x37.Bus (w64 (v23 + (1 : Int))) x37.B x37.C x37.Each)).set v24.toNat (STap.mk x38.Bus x38.A (w64 ((w64 (v23 + (1 : Int))) + (1 : Int))) x38.C x38.Each)).set v24.toNat (STap.mk x39.Bus x39.A x39.B (w64 ((w64 ((w64 (v23 + (1 : Int))) + (1 : Int))) + (1 : Int))) x39.Each)).set v24.toNat (STap.mk x40.Bus x40.A x40.B x40.C (FloatKind.nearest .f32 (w64 ((w64 ((w64 ((w64 (v23 + (1 : Int))) + (1 : Int))) + (1 : Int))) + (1 : Int)))))).length) 0 ((((((v22.set v24.toNat (STap.mk v23 x36.A x36.B x36.C x36.Each)).set v24.toNat (STap.mk x37.Bus (w64 (v23 + (1 : Int))) x37.B x37.C x37.Each)).set v24.toNat (STap.mk x38.Bus x38.A (w64 ((w64 (v23 + (1 : Int))) + (1 : Int))) x38.C x38.Each)).set v24.toNat (STap.mk x39.Bus x39.A x39.B (w64 ((w64 ((w64 (v23 + (1 : Int))) + (1 : Int))) + (1 : Int))) x39.Each)).set v24.toNat (STap.mk x40.Bus x40.A x40.B x40.C (FloatKind.nearest .f32 (w64 ((w64 ((w64 ((w64 (v23 + (1 : Int))) + (1 : Int))) + (1 : Int))) + (1 : Int)))))).length)), (1, .d (.int .i64 (w64 ((w64 ((w64 ((w64 (v23 + (1 : Int))) + (1 : Int))) + (1 : Int))) + (1 : Int))))), (5, .d (.int .i64 v24))]) (objs := [.row 5 ((((((v22.set v24.toNat (STap.mk v23 x36.A x36.B x36.C x36.Each)).set v24.toNat (STap.mk x37.Bus (w64 (v23 + (1 : Int))) x37.B x37.C x37.Each)).set v24.toNat (STap.mk x38.Bus x38.A (w64 ((w64 (v23 + (1 : Int))) + (1 : Int))) x38.C x38.Each)).set v24.toNat (STap.mk x39.Bus x39.A x39.B (w64 ((w64 ((w64 (v23 + (1 : Int))) + (1 : Int))) + (1 : Int))) x39.Each)).set v24.toNat (STap.mk x40.Bus x40.A x40.B x40.C (FloatKind.nearest .f32 (w64 ((w64 ((w64 ((w64 (v23 + (1 : Int))) + (1 : Int))) + (1 : Int))) + (1 : Int)))))).map eSTap)]) rfl (by simp) rfl (by repeat' first | exact trivial | refine ⟨?_, ?_⟩) ⟨(exV_rowL rfl (by simp)), trivial, rfl, trivial, rfl, trivial, trivial⟩) ?_
    refine aw_region ?_
    refine awl_val hτ rfl rfl rfl ?_
    refine awl_val hτ rfl rfl rfl ?_
    refine awl_val hτ rfl rfl rfl ?_
    refine awl_nil ?_
    refine aw_region ?_
    refine awl_val hτ rfl rfl rfl ?_
    refine awl_val hτ rfl rfl rfl ?_
    refine awl_val hτ rfl rfl rfl ?_
    refine awl_nil ?_
    exact ⟨(m33, (((((v22.set v24.toNat (STap.mk v23 x36.A x36.B x36.C x36.Each)).set v24.toNat (STap.mk x37.Bus (w64 (v23 + (1 : Int))) x37.B x37.C x37.Each)).set v24.toNat (STap.mk x38.Bus x38.A (w64 ((w64 (v23 + (1 : Int))) + (1 : Int))) x38.C x38.Each)).set v24.toNat (STap.mk x39.Bus x39.A x39.B (w64 ((w64 ((w64 (v23 + (1 : Int))) + (1 : Int))) + (1 : Int))) x39.Each)).set v24.toNat (STap.mk x40.Bus x40.A x40.B x40.C (FloatKind.nearest .f32 (w64 ((w64 ((w64 ((w64 (v23 + (1 : Int))) + (1 : Int))) + (1 : Int))) + (1 : Int)))))), (w64 ((w64 ((w64 ((w64 ((w64 (v23 + (1 : Int))) + (1 : Int))) + (1 : Int))) + (1 : Int))) + (1 : Int))), (w64 (v24 + (1 : Int)))), h, Nat.lt_succ_self m33, (weak_ofP [0] (l := [(0, .row 0 ((((((v22.set v24.toNat (STap.mk v23 x36.A x36.B x36.C x36.Each)).set v24.toNat (STap.mk x37.Bus (w64 (v23 + (1 : Int))) x37.B x37.C x37.Each)).set v24.toNat (STap.mk x38.Bus x38.A (w64 ((w64 (v23 + (1 : Int))) + (1 : Int))) x38.C x38.Each)).set v24.toNat (STap.mk x39.Bus x39.A x39.B (w64 ((w64 ((w64 (v23 + (1 : Int))) + (1 : Int))) + (1 : Int))) x39.Each)).set v24.toNat (STap.mk x40.Bus x40.A x40.B x40.C (FloatKind.nearest .f32 (w64 ((w64 ((w64 ((w64 (v23 + (1 : Int))) + (1 : Int))) + (1 : Int))) + (1 : Int)))))).length) 0 ((((((v22.set v24.toNat (STap.mk v23 x36.A x36.B x36.C x36.Each)).set v24.toNat (STap.mk x37.Bus (w64 (v23 + (1 : Int))) x37.B x37.C x37.Each)).set v24.toNat (STap.mk x38.Bus x38.A (w64 ((w64 (v23 + (1 : Int))) + (1 : Int))) x38.C x38.Each)).set v24.toNat (STap.mk x39.Bus x39.A x39.B (w64 ((w64 ((w64 (v23 + (1 : Int))) + (1 : Int))) + (1 : Int))) x39.Each)).set v24.toNat (STap.mk x40.Bus x40.A x40.B x40.C (FloatKind.nearest .f32 (w64 ((w64 ((w64 ((w64 (v23 + (1 : Int))) + (1 : Int))) + (1 : Int))) + (1 : Int)))))).length)), (1, .d (.int .i64 (w64 ((w64 ((w64 ((w64 ((w64 (v23 + (1 : Int))) + (1 : Int))) + (1 : Int))) + (1 : Int))) + (1 : Int))))), (5, .d (.int .i64 (w64 (v24 + (1 : Int)))))]) (objs := [.row 5 ((((((v22.set v24.toNat (STap.mk v23 x36.A x36.B x36.C x36.Each)).set v24.toNat (STap.mk x37.Bus (w64 (v23 + (1 : Int))) x37.B x37.C x37.Each)).set v24.toNat (STap.mk x38.Bus x38.A (w64 ((w64 (v23 + (1 : Int))) + (1 : Int))) x38.C x38.Each)).set v24.toNat (STap.mk x39.Bus x39.A x39.B (w64 ((w64 ((w64 (v23 + (1 : Int))) + (1 : Int))) + (1 : Int))) x39.Each)).set v24.toNat (STap.mk x40.Bus x40.A x40.B x40.C (FloatKind.nearest .f32 (w64 ((w64 ((w64 ((w64 (v23 + (1 : Int))) + (1 : Int))) + (1 : Int))) + (1 : Int)))))).map eSTap)]) rfl (by simp) rfl (by repeat' first | exact trivial | refine ⟨?_, ?_⟩) ⟨rfl, trivial, rfl, trivial, rfl, trivial, trivial⟩)⟩
  · have h := if_f h hc35
    refine aw_exit ?_
    refine aw_seq ?_
    refine aw_region ?_
    refine awl_val hτ rfl rfl rfl ?_
    refine awl_val hτ rfl rfl rfl ?_
    refine awl_nil ?_
    refine aw_weak (weak_ofP [0] (l := [(4, .d (.int .i64 v23))]) (objs := [.row 5 (v22.map eSTap)]) rfl (by simp) rfl (by repeat' first | exact trivial | refine ⟨?_, ?_⟩) ⟨rfl, trivial, trivial⟩) ?_
    refine aw_ret ?_
    have hr := Option.some.inj h
    subst hr
    exact ret_objs (.inr rfl) [] (objs' := [.row 5 (v22.map eSTap)]) (new := []) rfl (by simp) (by simp) rfl (by repeat' first | exact trivial | refine ⟨?_, ?_⟩) rfl rfl (by repeat' first | exact trivial | refine ⟨?_, ?_⟩) (fun _ => ⟨by simp [V.flat, V.flatA, V.flatC, D.flat], (flat_cons (flat_row eSTap_flat _) flat_nil)⟩) ⟨rfl, rfl, rfl⟩
theorem laws_markTapS_ok (n : Nat) (a_ : List STap) (k_ : Int) {r : Int × List STap} (h : m_laws_markTapS n a_ k_ = some r) : ACall prog false 115 [.row 0 a_.length 0 a_.length, .d (.int .i64 k_)] [.row 5 (a_.map eSTap)] (fun v o new => v = .d (.int .i64 r.1) ∧ o = [.row 5 (r.2.map eSTap)] ∧ new = []) := laws_markTapS_ok_fr0 false n a_ k_ h
theorem laws_markTapS_ok_fr (n : Nat) (a_ : List STap) (k_ : Int) {r : Int × List STap} (h : m_laws_markTapS n a_ k_ = some r) : ACall prog true 115 [.row 0 a_.length 0 a_.length, .d (.int .i64 k_)] [.row 5 (a_.map eSTap)] (fun v o new => v = .d (.int .i64 r.1) ∧ o = [.row 5 (r.2.map eSTap)] ∧ new = []) := laws_markTapS_ok_fr0 true n a_ k_ h

def m_laws_markOutageS_l1 (n : Nat) : Nat → List SOutage → Int → Int → Option (Int × List SOutage)
  | 0, _, _, _ => none
  | m25 + 1, v16, v17, v18 =>
    if v18 < (v16.length : Int) then
      (getI v16 v18).bind fun x28 =>
      (getI (v16.set v18.toNat (SOutage.mk v17 x28.From x28.Until)) v18).bind fun x29 =>
      (getI ((v16.set v18.toNat (SOutage.mk v17 x28.From x28.Until)).set v18.toNat (SOutage.mk x29.Bus (w64 (v17 + (1 : Int))) x29.Until)) v18).bind fun x30 =>
      (m_laws_markOutageS_l1 n m25) (((v16.set v18.toNat (SOutage.mk v17 x28.From x28.Until)).set v18.toNat (SOutage.mk x29.Bus (w64 (v17 + (1 : Int))) x29.Until)).set v18.toNat (SOutage.mk x30.Bus x30.From (w64 ((w64 (v17 + (1 : Int))) + (1 : Int))))) (w64 ((w64 ((w64 (v17 + (1 : Int))) + (1 : Int))) + (1 : Int))) (w64 (v18 + (1 : Int)))
    else
      some (v17, v16)
def m_laws_markOutageS (n : Nat) (a_ : List SOutage) (k_ : Int) : Option (Int × List SOutage) :=
  m_laws_markOutageS_l1 n n a_ k_ (0 : Int)
theorem laws_markOutageS_ok_fr0 (fr : Bool) (n : Nat) (a_ : List SOutage) (k_ : Int) {r : Int × List SOutage} (h : m_laws_markOutageS n a_ k_ = some r) : ACall prog fr 116 [.row 0 a_.length 0 a_.length, .d (.int .i64 k_)] [.row 3 (a_.map eSOutage)] (fun v o new => v = .d (.int .i64 r.1) ∧ o = [.row 3 (r.2.map eSOutage)] ∧ new = []) := by
  refine acall_of_aw hτ func116 rfl (by simp) (by simp) ?_
  unfold m_laws_markOutageS at h
  refine aw_seq ?_
  refine aw_region ?_
  refine awl_val hτ rfl rfl rfl ?_
  refine awl_nil ?_
  refine aw_seq ?_
  refine aw_seq ?_
  refine aw_region ?_
  refine awl_val hτ rfl rfl rfl ?_
  refine awl_nil ?_
  refine aw_block ?_
  refine aw_loop (ι := Nat × List SOutage × Int × Int) (fun (m25, v16, v17, v18) => St.of [(0, .row 0 v16.length 0 v16.length), (1, .d (.int .i64 v17)), (5, .d (.int .i64 v18))] [.row 3 (v16.map eSOutage)] f116.ntmps 1) (fun (m25, v16, v17, v18) => m_laws_markOutageS_l1 n m25 v16 v17 v18 = some r) (fun x => x.1) (n, a_, k_, (0 : Int)) h (weak_ofP [0] (l := [(0, .row 0 a_.length 0 a_.length), (1, .d (.int .i64 k_)), (5, .d (.int .i64 (0 : Int)))]) (objs := [.row 3 (a_.map eSOutage)]) rfl (by simp) rfl (by repeat' first | exact trivial | refine ⟨?_, ?_⟩) ⟨rfl, trivial, rfl, trivial, rfl, trivial, trivial⟩) ?_
  rintro ⟨m25, v16, v17, v18⟩ h
  replace h : m_laws_markOutageS_l1 n m25 v16 v17 v18 = some r := h
  rcases m25 with _ | m25
  · rw [m_laws_markOutageS_l1] at h; cases h
  rw [m_laws_markOutageS_l1] at h
  refine aw_seq ?_
  refine aw_seq ?_
  refine aw_region ?_
  refine awl_val hτ rfl rfl rfl ?_
  refine awl_val hτ rfl rfl rfl ?_
  refine awl_need hτ rfl rfl rfl (len_map _) ?_
  refine awl_val hτ rfl rfl rfl ?_
  refine awl_nil ?_
  refine aw_cond rfl (fun hc27 => ?_) (fun hc27 => ?_)
  · have h := if_t h hc27
    refine aw_skip ?_
    refine aw_seq ?_
    refine aw_block ?_
    refine aw_seq ?_
    refine aw_region ?_
    refine awl_val hτ rfl rfl rfl ?_
    refine awl_val hτ rfl rfl rfl ?_
    refine awl_val hτ rfl rfl rfl ?_
    refine bnd_elim h fun x28 hx28 h => ?_
    refine awl_need hτ rfl rfl rfl (row_need hx28) ?_
    refine awl_need hτ rfl rfl rfl (len_map _) ?_
    refine awl_elemH hτ rfl rfl rfl (len_map _) (row_get hx28) (set_val (f := eSOutage) (l := v16) (i := v18) (y := (SOutage.mk v17 x28.From x28.Until)) rfl) ?_
    refine awl_nil ?_
    refine aw_seq ?_
    refine aw_weak (weak_ofP [0] (l := [(0, .row 0 ((v16.set v18.toNat (SOutage.mk v17 x28.From x28.Until)).length) 0 ((v16.set v18.toNat (SOutage.mk v17 x28.From x28.Until)).length)), (1, .d (.int .i64 v17)), (5, .d (.int .i64 v18))]) (objs := [.row 3 ((v16.set v18.toNat (SOutage.mk v17 x28.From x28.Until)).map eSOutage)]) rfl (by simp) rfl (by repeat' first | exact trivial | refine ⟨?_, ?_⟩) ⟨(exV_rowL rfl (by simp)), trivial, rfl, trivial, rfl, trivial, trivial⟩) ?_
    refine aw_region ?_
    refine awl_val hτ rfl rfl rfl ?_
    refine awl_val hτ rfl rfl rfl ?_
    refine awl_val hτ rfl rfl rfl ?_
    refine awl_nil ?_
    refine aw_seq ?_
    refine aw_region ?_
    refine awl_val hτ rfl rfl rfl ?_
    refine awl_val hτ rfl rfl rfl ?_
    refine awl_val hτ rfl rfl rfl ?_
    refine bnd_elim h fun x29 hx29 h => ?_
    refine awl_need hτ rfl rfl rfl (row_need hx29) ?_
    refine awl_need hτ rfl rfl rfl (len_map _) ?_
    refine awl_elemH hτ rfl rfl rfl (len_map _) (row_get hx29) (set_val (f := eSOutage) (l := (v16.set v18.toNat (SOutage.mk v17 x28.From x28.Until))) (i := v18) (y := (SOutage.mk x29.Bus (w64 (v17 + (1 : Int))) x29.Until)) rfl) ?_
    refine awl_nil ?_
    refine aw_seq ?_
    refine aw_weak (weak_ofP [0] (l := [(0, .row 0 (((v16.set v18.toNat (SOutage.mk v17 x28.From x28.Until)).set v18.toNat (SOutage.mk x29.Bus (w64 (v17 + (1 : Int))) x29.Until)).length) 0 (((v16.set v18.toNat (SOutage.mk v17 x28.From x28.Until)).set v18.toNat (SOutage.mk x29.Bus (w64 (v17 + (1 : Int))) x29.Until)).length)), (1, .d (.int .i64 (w64 (v17 + (1 : Int))))), (5, .d (.int .i64 v18))]) (objs := [.row 3 (((v16.set v18.toNat (SOutage.mk v17 x28.From x28.Until)).set v18.toNat (SOutage.mk x29.Bus (w64 (v17 + (1 : Int))) x29.Until)).map eSOutage)]) rfl (by simp) rfl (by repeat' first | exact trivial | refine ⟨?_, ?_⟩) ⟨(exV_rowL rfl (by simp)), trivial, rfl, trivial, rfl, trivial, trivial⟩) ?_
    refine aw_region ?_
    refine awl_val hτ rfl rfl rfl ?_
    refine awl_val hτ rfl rfl rfl ?_
    refine awl_val hτ rfl rfl rfl ?_
    refine awl_nil ?_
    refine aw_seq ?_
    refine aw_region ?_
    refine awl_val hτ rfl rfl rfl ?_
    refine awl_val hτ rfl rfl rfl ?_
    refine awl_val hτ rfl rfl rfl ?_
    refine bnd_elim h fun x30 hx30 h => ?_
    refine awl_need hτ rfl rfl rfl (row_need hx30) ?_
    refine awl_need hτ rfl rfl rfl (len_map _) ?_
    refine awl_elemH hτ rfl rfl rfl (len_map _) (row_get hx30) (set_val (f := eSOutage) (l := ((v16.set v18.toNat (SOutage.mk v17 x28.From x28.Until)).set v18.toNat (SOutage.mk x29.Bus (w64 (v17 + (1 : Int))) x29.Until))) (i := v18) (y := (SOutage.mk x30.Bus x30.From (w64 ((w64 (v17 + (1 : Int))) + (1 : Int))))) rfl) ?_
    refine awl_nil ?_
    refine aw_weak (weak_ofP [0] (l := [(0, .row 0 ((((v16.set v18.toNat (SOutage.mk v17 x28.From x28.Until)).set v18.toNat (SOutage.mk x29.Bus (w64 (v17 + (1 : Int))) x29.Until)).set v18.toNat (SOutage.mk x30.Bus x30.From (w64 ((w64 (v17 + (1 : Int))) + (1 : Int))))).length) 0 ((((v16.set v18.toNat (SOutage.mk v17 x28.From x28.Until)).set v18.toNat (SOutage.mk x29.Bus (w64 (v17 + (1 : Int))) x29.Until)).set v18.toNat (SOutage.mk x30.Bus x30.From (w64 ((w64 (v17 + (1 : Int))) + (1 : Int))))).length)), (1, .d (.int .i64 (w64 ((w64 (v17 + (1 : Int))) + (1 : Int))))), (5, .d (.int .i64 v18))]) (objs := [.row 3 ((((v16.set v18.toNat (SOutage.mk v17 x28.From x28.Until)).set v18.toNat (SOutage.mk x29.Bus (w64 (v17 + (1 : Int))) x29.Until)).set v18.toNat (SOutage.mk x30.Bus x30.From (w64 ((w64 (v17 + (1 : Int))) + (1 : Int))))).map eSOutage)]) rfl (by simp) rfl (by repeat' first | exact trivial | refine ⟨?_, ?_⟩) ⟨(exV_rowL rfl (by simp)), trivial, rfl, trivial, rfl, trivial, trivial⟩) ?_
    refine aw_region ?_
    refine awl_val hτ rfl rfl rfl ?_
    refine awl_val hτ rfl rfl rfl ?_
    refine awl_val hτ rfl rfl rfl ?_
    refine awl_nil ?_
    refine aw_region ?_
    refine awl_val hτ rfl rfl rfl ?_
    refine awl_val hτ rfl rfl rfl ?_
    refine awl_val hτ rfl rfl rfl ?_
    refine awl_nil ?_
    exact ⟨(m25, (((v16.set v18.toNat (SOutage.mk v17 x28.From x28.Until)).set v18.toNat (SOutage.mk x29.Bus (w64 (v17 + (1 : Int))) x29.Until)).set v18.toNat (SOutage.mk x30.Bus x30.From (w64 ((w64 (v17 + (1 : Int))) + (1 : Int))))), (w64 ((w64 ((w64 (v17 + (1 : Int))) + (1 : Int))) + (1 : Int))), (w64 (v18 + (1 : Int)))), h, Nat.lt_succ_self m25, (weak_ofP [0] (l := [(0, .row 0 ((((v16.set v18.toNat (SOutage.mk v17 x28.From x28.Until)).set v18.toNat (SOutage.mk x29.Bus (w64 (v17 + (1 : Int))) x29.Until)).set v18.toNat (SOutage.mk x30.Bus x30.From (w64 ((w64 (v17 + (1 : Int))) + (1 : Int))))).length) 0 ((((v16.set v18.toNat (SOutage.mk v17 x28.From x28.Until)).set v18.toNat (SOutage.mk x29.Bus (w64 (v17 + (1 : Int))) x29.Until)).set v18.toNat (SOutage.mk x30.Bus x30.From (w64 ((w64 (v17 + (1 : Int))) + (1 : Int))))).length)), (1, .d (.int .i64 (w64 ((w64 ((w64 (v17 + (1 : Int))) + (1 : Int))) + (1 : Int))))), (5, .d (.int .i64 (w64 (v18 + (1 : Int)))))]) (objs := [.row 3 ((((v16.set v18.toNat (SOutage.mk v17 x28.From x28.Until)).set v18.toNat (SOutage.mk x29.Bus (w64 (v17 + (1 : Int))) x29.Until)).set v18.toNat (SOutage.mk x30.Bus x30.From (w64 ((w64 (v17 + (1 : Int))) + (1 : Int))))).map eSOutage)]) rfl (by simp) rfl (by repeat' first | exact trivial | refine ⟨?_, ?_⟩) ⟨rfl, trivial, rfl, trivial, rfl, trivial, trivial⟩)⟩
  · have h := if_f h hc27
    refine aw_exit ?_
    refine aw_seq ?_
    refine aw_region ?_
    refine awl_val hτ rfl rfl rfl ?_
    refine awl_val hτ rfl rfl rfl ?_
    refine awl_nil ?_
    refine aw_weak (weak_ofP [0] (l := [(4, .d (.int .i64 v17))]) (objs := [.row 3 (v16.map eSOutage)]) rfl (by simp) rfl (by repeat' first | exact trivial | refine ⟨?_, ?_⟩) ⟨rfl, trivial, trivial⟩) ?_
    refine aw_ret ?_
    have hr := Option.some.inj h
    subst hr
    exact ret_objs (.inr rfl) [] (objs' := [.row 3 (v16.map eSOutage)]) (new := []) rfl (by simp) (by simp) rfl (by repeat' first | exact trivial | refine ⟨?_, ?_⟩) rfl rfl (by repeat' first | exact trivial | refine ⟨?_, ?_⟩) (fun _ => ⟨by simp [V.flat, V.flatA, V.flatC, D.flat], (flat_cons (flat_row eSOutage_flat _) flat_nil)⟩) ⟨rfl, rfl, rfl⟩
theorem laws_markOutageS_ok (n : Nat) (a_ : List SOutage) (k_ : Int) {r : Int × List SOutage} (h : m_laws_markOutageS n a_ k_ = some r) : ACall prog false 116 [.row 0 a_.length 0 a_.length, .d (.int .i64 k_)] [.row 3 (a_.map eSOutage)] (fun v o new => v = .d (.int .i64 r.1) ∧ o = [.row 3 (r.2.map eSOutage)] ∧ new = []) := laws_markOutageS_ok_fr0 false n a_ k_ h
theorem laws_markOutageS_ok_fr (n : Nat) (a_ : List SOutage) (k_ : Int) {r : Int × List SOutage} (h : m_laws_markOutageS n a_ k_ = some r) : ACall prog true 116 [.row 0 a_.length 0 a_.length, .d (.int .i64 k_)] [.row 3 (a_.map eSOutage)] (fun v o new => v = .d (.int .i64 r.1) ∧ o = [.row 3 (r.2.map eSOutage)] ∧ new = []) := laws_markOutageS_ok_fr0 true n a_ k_ h

def m_laws_markDesk (n : Nat) (a_ : SDesk) (k_ : Int) : Option (Int × List SBus × List STap × List SOutage) :=
  (m_laws_markFeeder n (SFeeder.mk a_.Feeder.Source a_.Feeder.Buses) k_).bind fun x7 =>
  grd (x7.2.length = a_.Feeder.Buses.length) <|
  (m_laws_markTapS n a_.Taps x7.1).bind fun x9 =>
  grd (x9.2.length = a_.Taps.length) <|
  (m_laws_markOutageS n a_.List x9.1).bind fun x11 =>
  grd (x11.2.length = a_.List.length) <|
  some (x11.1, x7.2, x9.2, x11.2)
theorem laws_markDesk_ok_fr0 (fr : Bool) (n : Nat) (a_ : SDesk) (k_ : Int) {r : Int × List SBus × List STap × List SOutage} (h : m_laws_markDesk n a_ k_ = some r) : ACall prog fr 49 [.agg [.d (.cx .f32 a_.Feeder.Source.A.re a_.Feeder.Source.A.im), .d (.cx .f32 a_.Feeder.Source.B.re a_.Feeder.Source.B.im), .d (.cx .f32 a_.Feeder.Source.C.re a_.Feeder.Source.C.im), .row 0 a_.Feeder.Buses.length 0 a_.Feeder.Buses.length, .row 1 a_.Taps.length 0 a_.Taps.length, .row 2 a_.List.length 0 a_.List.length], .d (.int .i64 k_)] [.row 8 (a_.Feeder.Buses.map eSBus), .row 5 (a_.Taps.map eSTap), .row 3 (a_.List.map eSOutage)] (fun v o new => v = .d (.int .i64 r.1) ∧ o = [.row 8 (r.2.1.map eSBus), .row 5 (r.2.2.1.map eSTap), .row 3 (r.2.2.2.map eSOutage)] ∧ new = []) := by
  refine acall_of_aw hτ func49 rfl (by simp) (by simp) ?_
  unfold m_laws_markDesk at h
  refine aw_seq ?_
  refine aw_region ?_
  refine awl_valH hτ rfl rfl rfl ?_
  refine awl_val hτ rfl rfl rfl ?_
  refine awl_nil ?_
  refine aw_seq ?_
  refine aw_region ?_
  refine awl_val hτ rfl rfl rfl ?_
  refine awl_val hτ rfl rfl rfl ?_
  refine awl_val hτ rfl rfl rfl ?_
  refine bnd_elim h fun x7 hx7 h => ?_
  refine awl_callP hτ false [0] rfl rfl rfl (enterOk func114 rfl rfl) rfl rfl (by simp) ⟨(by repeat' first | exact trivial | refine ⟨?_, ?_⟩), trivial, trivial⟩ (by repeat' first | exact trivial | refine ⟨?_, ?_⟩) (laws_markFeeder_ok n (SFeeder.mk a_.Feeder.Source a_.Feeder.Buses) k_ hx7) ?_
  rintro r0 o0 n0 ⟨rfl, rfl, rfl⟩ -
  refine grd_elim h fun hg8 h => ?_
  refine awl_val hτ rfl rfl rfl ?_
  refine awl_nil ?_
  refine aw_seq ?_
  refine aw_weak (weak_ofP [0, 1, 2, 3] (l := [(1, .d (.int .i64 x7.1)), (2, .ptr 3 0)]) (objs := [.row 8 (x7.2.map eSBus), .row 5 (a_.Taps.map eSTap), .row 3 (a_.List.map eSOutage), .box [.d (.cx .f32 a_.Feeder.Source.A.re a_.Feeder.Source.A.im), .d (.cx .f32 a_.Feeder.Source.B.re a_.Feeder.Source.B.im), .d (.cx .f32 a_.Feeder.Source.C.re a_.Feeder.Source.C.im), .row 0 x7.2.length 0 x7.2.length, .row 1 a_.Taps.length 0 a_.Taps.length, .row 2 a_.List.length 0 a_.List.length]]) rfl (by simp) (mapO_cons rfl (mapO_cons rfl (mapO_cons rfl (mapO_cons (exO_box (mapO_cons rfl (mapO_cons rfl (mapO_cons rfl (mapO_cons (exC_rowL rfl (by simp [hg8])) (mapO_cons rfl (mapO_cons rfl mapO_nil))))))) mapO_nil)))) ⟨trivial, trivial, trivial, ⟨trivial, trivial, trivial, trivial, trivial, trivial⟩, trivial⟩ ⟨rfl, trivial, rfl, trivial, trivial⟩) ?_
  refine aw_region ?_
  refine awl_val hτ rfl rfl rfl ?_
  refine awl_val hτ rfl rfl rfl ?_
  refine awl_val hτ rfl rfl rfl ?_
  refine bnd_elim h fun x9 hx9 h => ?_
  refine awl_callP hτ false [1] rfl rfl rfl (enterOk func115 rfl rfl) rfl rfl (by simp) ⟨trivial, trivial, trivial⟩ (by repeat' first | exact trivial | refine ⟨?_, ?_⟩) (laws_markTapS_ok n a_.Taps x7.1 hx9) ?_
  rintro r0 o0 n0 ⟨rfl, rfl, rfl⟩ -
  refine grd_elim h fun hg10 h => ?_
  refine awl_val hτ rfl rfl rfl ?_
  refine awl_nil ?_
  refine aw_seq ?_
  refine aw_region ?_
  refine awl_val hτ rfl rfl rfl ?_
  refine awl_val hτ rfl rfl rfl ?_
  refine awl_val hτ rfl rfl rfl ?_
  refine bnd_elim h fun x11 hx11 h => ?_
  refine awl_callP hτ false [2] rfl rfl rfl (enterOk func116 rfl rfl) rfl rfl (by simp) ⟨trivial, trivial, trivial⟩ (by repeat' first | exact trivial | refine ⟨?_, ?_⟩) (laws_markOutageS_ok n a_.List x9.1 hx11) ?_
  rintro r0 o0 n0 ⟨rfl, rfl, rfl⟩ -
  refine grd_elim h fun hg12 h => ?_
  refine awl_val hτ rfl rfl rfl ?_
  refine awl_nil ?_
  refine aw_seq ?_
  refine aw_weak (weak_ofP [0, 1, 2] (l := [(1, .d (.int .i64 x11.1))]) (objs := [.row 8 (x7.2.map eSBus), .row 5 (x9.2.map eSTap), .row 3 (x11.2.map eSOutage)]) rfl (by simp) rfl (by repeat' first | exact trivial | refine ⟨?_, ?_⟩) ⟨rfl, trivial, trivial⟩) ?_
  refine aw_region ?_
  refine awl_val hτ rfl rfl rfl ?_
  refine awl_val hτ rfl rfl rfl ?_
  refine awl_nil ?_
  refine aw_weak (weak_ofP [0, 1, 2] (l := [(4, .d (.int .i64 x11.1))]) (objs := [.row 8 (x7.2.map eSBus), .row 5 (x9.2.map eSTap), .row 3 (x11.2.map eSOutage)]) rfl (by simp) rfl (by repeat' first | exact trivial | refine ⟨?_, ?_⟩) ⟨rfl, trivial, trivial⟩) ?_
  refine aw_ret ?_
  have hr := Option.some.inj h
  subst hr
  exact ret_objs (.inr rfl) [] (objs' := [.row 8 (x7.2.map eSBus), .row 5 (x9.2.map eSTap), .row 3 (x11.2.map eSOutage)]) (new := []) rfl (by simp) (by simp) rfl (by repeat' first | exact trivial | refine ⟨?_, ?_⟩) rfl rfl (by repeat' first | exact trivial | refine ⟨?_, ?_⟩) (fun _ => ⟨by simp [V.flat, V.flatA, V.flatC, D.flat], (flat_cons (flat_row eSBus_flat _) (flat_cons (flat_row eSTap_flat _) (flat_cons (flat_row eSOutage_flat _) flat_nil)))⟩) ⟨rfl, rfl, rfl⟩
theorem laws_markDesk_ok (n : Nat) (a_ : SDesk) (k_ : Int) {r : Int × List SBus × List STap × List SOutage} (h : m_laws_markDesk n a_ k_ = some r) : ACall prog false 49 [.agg [.d (.cx .f32 a_.Feeder.Source.A.re a_.Feeder.Source.A.im), .d (.cx .f32 a_.Feeder.Source.B.re a_.Feeder.Source.B.im), .d (.cx .f32 a_.Feeder.Source.C.re a_.Feeder.Source.C.im), .row 0 a_.Feeder.Buses.length 0 a_.Feeder.Buses.length, .row 1 a_.Taps.length 0 a_.Taps.length, .row 2 a_.List.length 0 a_.List.length], .d (.int .i64 k_)] [.row 8 (a_.Feeder.Buses.map eSBus), .row 5 (a_.Taps.map eSTap), .row 3 (a_.List.map eSOutage)] (fun v o new => v = .d (.int .i64 r.1) ∧ o = [.row 8 (r.2.1.map eSBus), .row 5 (r.2.2.1.map eSTap), .row 3 (r.2.2.2.map eSOutage)] ∧ new = []) := laws_markDesk_ok_fr0 false n a_ k_ h
theorem laws_markDesk_ok_fr (n : Nat) (a_ : SDesk) (k_ : Int) {r : Int × List SBus × List STap × List SOutage} (h : m_laws_markDesk n a_ k_ = some r) : ACall prog true 49 [.agg [.d (.cx .f32 a_.Feeder.Source.A.re a_.Feeder.Source.A.im), .d (.cx .f32 a_.Feeder.Source.B.re a_.Feeder.Source.B.im), .d (.cx .f32 a_.Feeder.Source.C.re a_.Feeder.Source.C.im), .row 0 a_.Feeder.Buses.length 0 a_.Feeder.Buses.length, .row 1 a_.Taps.length 0 a_.Taps.length, .row 2 a_.List.length 0 a_.List.length], .d (.int .i64 k_)] [.row 8 (a_.Feeder.Buses.map eSBus), .row 5 (a_.Taps.map eSTap), .row 3 (a_.List.map eSOutage)] (fun v o new => v = .d (.int .i64 r.1) ∧ o = [.row 8 (r.2.1.map eSBus), .row 5 (r.2.2.1.map eSTap), .row 3 (r.2.2.2.map eSOutage)] ∧ new = []) := laws_markDesk_ok_fr0 true n a_ k_ h

def m_laws_heldBusS_l1 (n : Nat) (a_ : List SBus) : Nat → Int → Int → Option Int
  | 0, _, _ => none
  | m53 + 1, v38, v39 =>
    if v39 < (a_.length : Int) then
      (getI a_ v39).bind fun x68 =>
      if x68.Parent = v38 then
        (fconv .f64 .f32 (FloatKind.nearest .f64 (w64 (v38 + (1 : Int))))).bind fun x72 =>
        (fconv .f64 .f32 (4607182418800017408 : Nat)).bind fun x73 =>
        if (fcmp .eql .f32 x68.Own.re x72 && fcmp .eql .f32 x68.Own.im x73) = true then
          (fconv .f64 .f32 (FloatKind.nearest .f64 (w64 ((w64 (v38 + (1 : Int))) + (1 : Int))))).bind fun x77 =>
          (fconv .f64 .f32 (4607182418800017408 : Nat)).bind fun x78 =>
          if (fcmp .eql .f32 x68.Shared.re x77 && fcmp .eql .f32 x68.Shared.im x78) = true then
            if x68.Kind = (w64 ((w64 ((w64 (v38 + (1 : Int))) + (1 : Int))) + (1 : Int))) then
              (fconv .f64 .f32 (FloatKind.nearest .f64 (w64 ((w64 ((w64 ((w64 (v38 + (1 : Int))) + (1 : Int))) + (1 : Int))) + (1 : Int))))).bind fun x83 =>
              (fconv .f64 .f32 (4607182418800017408 : Nat)).bind fun x84 =>
              if (fcmp .eql .f32 x68.Load.A.re x83 && fcmp .eql .f32 x68.Load.A.im x84) = true then
                (fconv .f64 .f32 (FloatKind.nearest .f64 (w64 ((w64 ((w64 ((w64 ((w64 (v38 + (1 : Int))) + (1 : Int))) + (1 : Int))) + (1 : Int))) + (1 : Int))))).bind fun x88 =>
                (fconv .f64 .f32 (4607182418800017408 : Nat)).bind fun x89 =>
                if (fcmp .eql .f32 x68.Load.B.re x88 && fcmp .eql .f32 x68.Load.B.im x89) = true then
                  (fconv .f64 .f32 (FloatKind.nearest .f64 (w64 ((w64 ((w64 ((w64 ((w64 ((w64 (v38 + (1 : Int))) + (1 : Int))) + (1 : Int))) + (1 : Int))) + (1 : Int))) + (1 : Int))))).bind fun x93 =>
                  (fconv .f64 .f32 (4607182418800017408 : Nat)).bind fun x94 =>
                  if (fcmp .eql .f32 x68.Load.C.re x93 && fcmp .eql .f32 x68.Load.C.im x94) = true then
                    if x68.Customers = (w64 ((w64 ((w64 ((w64 ((w64 ((w64 ((w64 (v38 + (1 : Int))) + (1 : Int))) + (1 : Int))) + (1 : Int))) + (1 : Int))) + (1 : Int))) + (1 : Int))) then
                      (m_laws_heldBusS_l1 n a_ m53) (w64 ((w64 ((w64 ((w64 ((w64 ((w64 ((w64 ((w64 (v38 + (1 : Int))) + (1 : Int))) + (1 : Int))) + (1 : Int))) + (1 : Int))) + (1 : Int))) + (1 : Int))) + (1 : Int))) (w64 (v39 + (1 : Int)))
                    else
                      some (-1 : Int)
                  else
                    some (-1 : Int)
                else
                  some (-1 : Int)
              else
                some (-1 : Int)
            else
              some (-1 : Int)
          else
            some (-1 : Int)
        else
          some (-1 : Int)
      else
        some (-1 : Int)
    else
      some v38
def m_laws_heldBusS (n : Nat) (a_ : List SBus) (k_ : Int) : Option Int :=
  m_laws_heldBusS_l1 n a_ n k_ (0 : Int)
theorem laws_heldBusS_ok_fr0 (fr : Bool) (n : Nat) (a_ : List SBus) (k_ : Int) {r : Int} (h : m_laws_heldBusS n a_ k_ = some r) : ACall prog fr 171 [.d (.sl false (a_.map eSBus)), .d (.int .i64 k_)] [] (fun v o new => v = .d (.int .i64 r) ∧ o = [] ∧ new = []) := by
  refine acall_of_aw hτ func171 rfl (by simp) (by simp) ?_
  unfold m_laws_heldBusS at h
  refine aw_seq ?_
  refine aw_region ?_
  refine awl_val hτ rfl rfl rfl ?_
  refine awl_nil ?_
  refine aw_seq ?_
  refine aw_seq ?_
  refine aw_region ?_
  refine awl_val hτ rfl rfl rfl ?_
  refine awl_nil ?_
  refine aw_block ?_
  refine aw_loop (ι := Nat × Int × Int) (fun (m53, v38, v39) => St.of [(0, .d (.sl false (a_.map eSBus))), (1, .d (.int .i64 v38)), (5, .d (.int .i64 v39))] [] f171.ntmps 0) (fun (m53, v38, v39) => m_laws_heldBusS_l1 n a_ m53 v38 v39 = some r) (fun x => x.1) (n, k_, (0 : Int)) h (weak_ofP [] (l := [(0, .d (.sl false (a_.map eSBus))), (1, .d (.int .i64 k_)), (5, .d (.int .i64 (0 : Int)))]) (objs := []) rfl (by simp) rfl (by repeat' first | exact trivial | refine ⟨?_, ?_⟩) ⟨rfl, trivial, rfl, trivial, rfl, trivial, trivial⟩) ?_
  rintro ⟨m53, v38, v39⟩ h
  replace h : m_laws_heldBusS_l1 n a_ m53 v38 v39 = some r := h
  rcases m53 with _ | m53
  · rw [m_laws_heldBusS_l1] at h; cases h
  rw [m_laws_heldBusS_l1] at h
  refine aw_seq ?_
  refine aw_seq ?_
  refine aw_region ?_
  refine awl_val hτ rfl rfl rfl ?_
  refine awl_val hτ rfl rfl rfl ?_
  refine awl_val hτ (v := .d (.int .i64 (a_.length : Int))) rfl rfl (Eq.trans rfl (or_len (f := eSBus) a_)) ?_
  refine awl_val hτ rfl rfl rfl ?_
  refine awl_nil ?_
  refine aw_cond rfl (fun hc55 => ?_) (fun hc55 => ?_)
  · have h := if_t h hc55
    refine aw_skip ?_
    refine aw_seq ?_
    refine aw_block ?_
    refine aw_seq ?_
    refine aw_seq ?_
    refine aw_region ?_
    refine awl_val hτ rfl rfl rfl ?_
    refine awl_val hτ rfl rfl rfl ?_
    refine bnd_elim h fun x68 hx68 h => ?_
    refine awl_elem hτ rfl rfl rfl (getI_some hx68).1 (map_getI hx68) rfl ?_
    refine awl_val hτ rfl rfl rfl ?_
    refine awl_val hτ rfl rfl rfl ?_
    refine awl_val hτ rfl rfl rfl ?_
    refine awl_val hτ (v := .d (.bool (!(decide (x68.Parent = v38))))) rfl rfl (or_ine _ _) ?_
    refine awl_nil ?_
    refine aw_weak (weak_ofP [] (l := [(0, .d (.sl false (a_.map eSBus))), (1, .d (.int .i64 v38)), (5, .d (.int .i64 v39)), (18, .d (.bool (!(decide (x68.Parent = v38)))))]) (objs := []) rfl (by simp) rfl (by repeat' first | exact trivial | refine ⟨?_, ?_⟩) ⟨rfl, trivial, rfl, trivial, rfl, trivial, rfl, trivial, trivial⟩) ?_
    refine aw_cond rfl (fun hc69 => ?_) (fun hc69 => ?_)
    · have hc69 := not_t hc69
      have h := if_f h hc69
      refine aw_seq ?_
      refine aw_region ?_
      refine awl_val hτ rfl rfl rfl ?_
      refine awl_nil ?_
      refine aw_weak (weak_ofP [] (l := [(4, .d (.int .i64 (-1 : Int)))]) (objs := []) rfl (by simp) rfl (by repeat' first | exact trivial | refine ⟨?_, ?_⟩) ⟨rfl, trivial, trivial⟩) ?_
      refine aw_ret ?_
      have hr := Option.some.inj h
      subst hr
      exact ret_objs (.inr rfl) [] (objs' := []) (new := []) rfl (by simp) (by simp) rfl (by repeat' first | exact trivial | refine ⟨?_, ?_⟩) rfl rfl (by repeat' first | exact trivial | refine ⟨?_, ?_⟩) (fun _ => ⟨by simp [V.flat, V.flatA, V.flatC, D.flat], flat_nil⟩) ⟨rfl, rfl, rfl⟩
    · have hc69 := not_f hc69
      have h := if_t h hc69
      refine aw_skip ?_
      refine aw_seq ?_
      refine aw_region ?_
      refine awl_val hτ rfl rfl rfl ?_
      refine awl_val hτ rfl rfl rfl ?_
      refine awl_val hτ rfl rfl rfl ?_
      refine awl_nil ?_
      refine aw_seq ?_
      refine aw_seq ?_
      refine aw_region ?_
      refine awl_val hτ rfl rfl rfl ?_
      refine awl_val hτ rfl rfl rfl ?_
      refine awl_elem hτ rfl rfl rfl (getI_some hx68).1 (map_getI hx68) rfl ?_
      refine awl_val hτ rfl rfl rfl ?_
      refine awl_val hτ rfl rfl rfl ?_
      refine awl_val hτ rfl rfl rfl ?_
      refine awl_val hτ rfl rfl rfl ?_
      refine awl_val hτ rfl rfl rfl ?_
      refine bnd_elim h fun x72 hx72 h => ?_
      refine bnd_elim h fun x73 hx73 h => ?_
      refine awl_x rfl rfl (x_c2c hτ rfl rfl rfl rfl rfl rfl hx72 hx73) ?_
      refine awl_val hτ rfl rfl rfl ?_
      refine awl_nil ?_
      refine aw_weak (weak_ofP [] (l := [(0, .d (.sl false (a_.map eSBus))), (1, .d (.int .i64 (w64 (v38 + (1 : Int))))), (5, .d (.int .i64 v39)), (30, .d (.bool (!(fcmp .eql .f32 x68.Own.re x72 && fcmp .eql .f32 x68.Own.im x73))))]) (objs := []) rfl (by simp) rfl (by repeat' first | exact trivial | refine ⟨?_, ?_⟩) ⟨rfl, trivial, rfl, trivial, rfl, trivial, rfl, trivial, trivial⟩) ?_
      refine aw_cond rfl (fun hc74 => ?_) (fun hc74 => ?_)
      · have hc74 := not_t hc74
        have h := if_bf h hc74
        refine aw_seq ?_
        refine aw_region ?_
        refine awl_val hτ rfl rfl rfl ?_
        refine awl_nil ?_
        refine aw_weak (weak_ofP [] (l := [(4, .d (.int .i64 (-1 : Int)))]) (objs := []) rfl (by simp) rfl (by repeat' first | exact trivial | refine ⟨?_, ?_⟩) ⟨rfl, trivial, trivial⟩) ?_
        refine aw_ret ?_
        have hr := Option.some.inj h
        subst hr
        exact ret_objs (.inr rfl) [] (objs' := []) (new := []) rfl (by simp) (by simp) rfl (by repeat' first | exact trivial | refine ⟨?_, ?_⟩) rfl rfl (by repeat' first | exact trivial | refine ⟨?_, ?_⟩) (fun _ => ⟨by simp [V.flat, V.flatA, V.flatC, D.flat], flat_nil⟩) ⟨rfl, rfl, rfl⟩
      · have hc74 := not_f hc74
        have h := if_bt h hc74
        refine aw_skip ?_
        refine aw_seq ?_
        refine aw_region ?_
        refine awl_val hτ rfl rfl rfl ?_
        refine awl_val hτ rfl rfl rfl ?_
        refine awl_val hτ rfl rfl rfl ?_
        refine awl_nil ?_
        refine aw_seq ?_
        refine aw_seq ?_
        refine aw_region ?_
        refine awl_val hτ rfl rfl rfl ?_
        refine awl_val hτ rfl rfl rfl ?_
        refine awl_elem hτ rfl rfl rfl (getI_some hx68).1 (map_getI hx68) rfl ?_
        refine awl_val hτ rfl rfl rfl ?_
        refine awl_val hτ rfl rfl rfl ?_
        refine awl_val hτ rfl rfl rfl ?_
        refine awl_val hτ rfl rfl rfl ?_
        refine awl_val hτ rfl rfl rfl ?_
        refine bnd_elim h fun x77 hx77 h => ?_
        refine bnd_elim h fun x78 hx78 h => ?_
        refine awl_x rfl rfl (x_c2c hτ rfl rfl rfl rfl rfl rfl hx77 hx78) ?_
        refine awl_val hτ rfl rfl rfl ?_
        refine awl_nil ?_
        refine aw_weak (weak_ofP [] (l := [(0, .d (.sl false (a_.map eSBus))), (1, .d (.int .i64 (w64 ((w64 (v38 + (1 : Int))) + (1 : Int))))), (5, .d (.int .i64 v39)), (42, .d (.bool (!(fcmp .eql .f32 x68.Shared.re x77 && fcmp .eql .f32 x68.Shared.im x78))))]) (objs := []) rfl (by simp) rfl (by repeat' first | exact trivial | refine ⟨?_, ?_⟩) ⟨rfl, trivial, rfl, trivial, rfl, trivial, rfl, trivial, trivial⟩) ?_
        refine aw_cond rfl (fun hc79 => ?_) (fun hc79 => ?_)
        · have hc79 := not_t hc79
          have h := if_bf h hc79
          refine aw_seq ?_
          refine aw_region ?_
          refine awl_val hτ rfl rfl rfl ?_
          refine awl_nil ?_
          refine aw_weak (weak_ofP [] (l := [(4, .d (.int .i64 (-1 : Int)))]) (objs := []) rfl (by simp) rfl (by repeat' first | exact trivial | refine ⟨?_, ?_⟩) ⟨rfl, trivial, trivial⟩) ?_
          refine aw_ret ?_
          have hr := Option.some.inj h
          subst hr
          exact ret_objs (.inr rfl) [] (objs' := []) (new := []) rfl (by simp) (by simp) rfl (by repeat' first | exact trivial | refine ⟨?_, ?_⟩) rfl rfl (by repeat' first | exact trivial | refine ⟨?_, ?_⟩) (fun _ => ⟨by simp [V.flat, V.flatA, V.flatC, D.flat], flat_nil⟩) ⟨rfl, rfl, rfl⟩
        · have hc79 := not_f hc79
          have h := if_bt h hc79
          refine aw_skip ?_
          refine aw_seq ?_
          refine aw_region ?_
          refine awl_val hτ rfl rfl rfl ?_
          refine awl_val hτ rfl rfl rfl ?_
          refine awl_val hτ rfl rfl rfl ?_
          refine awl_nil ?_
          refine aw_seq ?_
          refine aw_seq ?_
          refine aw_region ?_
          refine awl_val hτ rfl rfl rfl ?_
          refine awl_val hτ rfl rfl rfl ?_
          refine awl_elem hτ rfl rfl rfl (getI_some hx68).1 (map_getI hx68) rfl ?_
          refine awl_val hτ rfl rfl rfl ?_
          refine awl_val hτ rfl rfl rfl ?_
          refine awl_val hτ rfl rfl rfl ?_
          refine awl_val hτ (v := .d (.bool (!(decide (x68.Kind = (w64 ((w64 ((w64 (v38 + (1 : Int))) + (1 : Int))) + (1 : Int)))))))) rfl rfl (or_ine _ _) ?_
          refine awl_nil ?_
          refine aw_weak (weak_ofP [] (l := [(0, .d (.sl false (a_.map eSBus))), (1, .d (.int .i64 (w64 ((w64 ((w64 (v38 + (1 : Int))) + (1 : Int))) + (1 : Int))))), (5, .d (.int .i64 v39)), (51, .d (.bool (!(decide (x68.Kind = (w64 ((w64 ((w64 (v38 + (1 : Int))) + (1 : Int))) + (1 : Int))))))))]) (objs := []) rfl (by simp) rfl (by repeat' first | exact trivial | refine ⟨?_, ?_⟩) ⟨rfl, trivial, rfl, trivial, rfl, trivial, rfl, trivial, trivial⟩) ?_
          refine aw_cond rfl (fun hc80 => ?_) (fun hc80 => ?_)
          · have hc80 := not_t hc80
            have h := if_f h hc80
            refine aw_seq ?_
            refine aw_region ?_
            refine awl_val hτ rfl rfl rfl ?_
            refine awl_nil ?_
            refine aw_weak (weak_ofP [] (l := [(4, .d (.int .i64 (-1 : Int)))]) (objs := []) rfl (by simp) rfl (by repeat' first | exact trivial | refine ⟨?_, ?_⟩) ⟨rfl, trivial, trivial⟩) ?_
            refine aw_ret ?_
            have hr := Option.some.inj h
            subst hr
            exact ret_objs (.inr rfl) [] (objs' := []) (new := []) rfl (by simp) (by simp) rfl (by repeat' first | exact trivial | refine ⟨?_, ?_⟩) rfl rfl (by repeat' first | exact trivial | refine ⟨?_, ?_⟩) (fun _ => ⟨by simp [V.flat, V.flatA, V.flatC, D.flat], flat_nil⟩) ⟨rfl, rfl, rfl⟩
          · have hc80 := not_f hc80
            have h := if_t h hc80
            refine aw_skip ?_
            refine aw_seq ?_
            refine aw_region ?_
            refine awl_val hτ rfl rfl rfl ?_
            refine awl_val hτ rfl rfl rfl ?_
            refine awl_val hτ rfl rfl rfl ?_
            refine awl_nil ?_
            refine aw_seq ?_
            refine aw_seq ?_
            refine aw_region ?_
            refine awl_val hτ rfl rfl rfl ?_
            refine awl_val hτ rfl rfl rfl ?_
            refine awl_elem hτ rfl rfl rfl (getI_some hx68).1 (map_getI hx68) rfl ?_
            refine awl_val hτ rfl rfl rfl ?_
            refine awl_val hτ rfl rfl rfl ?_
            refine awl_val hτ rfl rfl rfl ?_
            refine awl_val hτ rfl rfl rfl ?_
            refine awl_val hτ rfl rfl rfl ?_
            refine awl_val hτ rfl rfl rfl ?_
            refine bnd_elim h fun x83 hx83 h => ?_
            refine bnd_elim h fun x84 hx84 h => ?_
            refine awl_x rfl rfl (x_c2c hτ rfl rfl rfl rfl rfl rfl hx83 hx84) ?_
            refine awl_val hτ rfl rfl rfl ?_
            refine awl_nil ?_
            refine aw_weak (weak_ofP [] (l := [(0, .d (.sl false (a_.map eSBus))), (1, .d (.int .i64 (w64 ((w64 ((w64 ((w64 (v38 + (1 : Int))) + (1 : Int))) + (1 : Int))) + (1 : Int))))), (5, .d (.int .i64 v39)), (64, .d (.bool (!(fcmp .eql .f32 x68.Load.A.re x83 && fcmp .eql .f32 x68.Load.A.im x84))))]) (objs := []) rfl (by simp) rfl (by repeat' first | exact trivial | refine ⟨?_, ?_⟩) ⟨rfl, trivial, rfl, trivial, rfl, trivial, rfl, trivial, trivial⟩) ?_
            refine aw_cond rfl (fun hc85 => ?_) (fun hc85 => ?_)
            · have hc85 := not_t hc85
              have h := if_bf h hc85
              refine aw_seq ?_
              refine aw_region ?_
              refine awl_val hτ rfl rfl rfl ?_
              refine awl_nil ?_
              refine aw_weak (weak_ofP [] (l := [(4, .d (.int .i64 (-1 : Int)))]) (objs := []) rfl (by simp) rfl (by repeat' first | exact trivial | refine ⟨?_, ?_⟩) ⟨rfl, trivial, trivial⟩) ?_
              refine aw_ret ?_
              have hr := Option.some.inj h
              subst hr
              exact ret_objs (.inr rfl) [] (objs' := []) (new := []) rfl (by simp) (by simp) rfl (by repeat' first | exact trivial | refine ⟨?_, ?_⟩) rfl rfl (by repeat' first | exact trivial | refine ⟨?_, ?_⟩) (fun _ => ⟨by simp [V.flat, V.flatA, V.flatC, D.flat], flat_nil⟩) ⟨rfl, rfl, rfl⟩
            · have hc85 := not_f hc85
              have h := if_bt h hc85
              refine aw_skip ?_
              refine aw_seq ?_
              refine aw_region ?_
              refine awl_val hτ rfl rfl rfl ?_
              refine awl_val hτ rfl rfl rfl ?_
              refine awl_val hτ rfl rfl rfl ?_
              refine awl_nil ?_
              refine aw_seq ?_
              refine aw_seq ?_
              refine aw_region ?_
              refine awl_val hτ rfl rfl rfl ?_
              refine awl_val hτ rfl rfl rfl ?_
              refine awl_elem hτ rfl rfl rfl (getI_some hx68).1 (map_getI hx68) rfl ?_
              refine awl_val hτ rfl rfl rfl ?_
              refine awl_val hτ rfl rfl rfl ?_
              refine awl_val hτ rfl rfl rfl ?_
              refine awl_val hτ rfl rfl rfl ?_
              refine awl_val hτ rfl rfl rfl ?_
              refine awl_val hτ rfl rfl rfl ?_
              refine bnd_elim h fun x88 hx88 h => ?_
              refine bnd_elim h fun x89 hx89 h => ?_
              refine awl_x rfl rfl (x_c2c hτ rfl rfl rfl rfl rfl rfl hx88 hx89) ?_
              refine awl_val hτ rfl rfl rfl ?_
              refine awl_nil ?_
              refine aw_weak (weak_ofP [] (l := [(0, .d (.sl false (a_.map eSBus))), (1, .d (.int .i64 (w64 ((w64 ((w64 ((w64 ((w64 (v38 + (1 : Int))) + (1 : Int))) + (1 : Int))) + (1 : Int))) + (1 : Int))))), (5, .d (.int .i64 v39)), (77, .d (.bool (!(fcmp .eql .f32 x68.Load.B.re x88 && fcmp .eql .f32 x68.Load.B.im x89))))]) (objs := []) rfl (by simp) rfl (by repeat' first | exact trivial | refine ⟨?_, ?_⟩) ⟨rfl, trivial, rfl, trivial, rfl, trivial, rfl, trivial, trivial⟩) ?_
              refine aw_cond rfl (fun hc90 => ?_) (fun hc90 => ?_)
              · have hc90 := not_t hc90
                have h := if_bf h hc90
                refine aw_seq ?_
                refine aw_region ?_
                refine awl_val hτ rfl rfl rfl ?_
                refine awl_nil ?_
                refine aw_weak (weak_ofP [] (l := [(4, .d (.int .i64 (-1 : Int)))]) (objs := []) rfl (by simp) rfl (by repeat' first | exact trivial | refine ⟨?_, ?_⟩) ⟨rfl, trivial, trivial⟩) ?_
                refine aw_ret ?_
                have hr := Option.some.inj h
                subst hr
                exact ret_objs (.inr rfl) [] (objs' := []) (new := []) rfl (by simp) (by simp) rfl (by repeat' first | exact trivial | refine ⟨?_, ?_⟩) rfl rfl (by repeat' first | exact trivial | refine ⟨?_, ?_⟩) (fun _ => ⟨by simp [V.flat, V.flatA, V.flatC, D.flat], flat_nil⟩) ⟨rfl, rfl, rfl⟩
              · have hc90 := not_f hc90
                have h := if_bt h hc90
                refine aw_skip ?_
                refine aw_seq ?_
                refine aw_region ?_
                refine awl_val hτ rfl rfl rfl ?_
                refine awl_val hτ rfl rfl rfl ?_
                refine awl_val hτ rfl rfl rfl ?_
                refine awl_nil ?_
                refine aw_seq ?_
                refine aw_seq ?_
                refine aw_region ?_
                refine awl_val hτ rfl rfl rfl ?_
                refine awl_val hτ rfl rfl rfl ?_
                refine awl_elem hτ rfl rfl rfl (getI_some hx68).1 (map_getI hx68) rfl ?_
                refine awl_val hτ rfl rfl rfl ?_
                refine awl_val hτ rfl rfl rfl ?_
                refine awl_val hτ rfl rfl rfl ?_
                refine awl_val hτ rfl rfl rfl ?_
                refine awl_val hτ rfl rfl rfl ?_
                refine awl_val hτ rfl rfl rfl ?_
                refine bnd_elim h fun x93 hx93 h => ?_
                refine bnd_elim h fun x94 hx94 h => ?_
                refine awl_x rfl rfl (x_c2c hτ rfl rfl rfl rfl rfl rfl hx93 hx94) ?_
                refine awl_val hτ rfl rfl rfl ?_
                refine awl_nil ?_
                refine aw_weak (weak_ofP [] (l := [(0, .d (.sl false (a_.map eSBus))), (1, .d (.int .i64 (w64 ((w64 ((w64 ((w64 ((w64 ((w64 (v38 + (1 : Int))) + (1 : Int))) + (1 : Int))) + (1 : Int))) + (1 : Int))) + (1 : Int))))), (5, .d (.int .i64 v39)), (90, .d (.bool (!(fcmp .eql .f32 x68.Load.C.re x93 && fcmp .eql .f32 x68.Load.C.im x94))))]) (objs := []) rfl (by simp) rfl (by repeat' first | exact trivial | refine ⟨?_, ?_⟩) ⟨rfl, trivial, rfl, trivial, rfl, trivial, rfl, trivial, trivial⟩) ?_
                refine aw_cond rfl (fun hc95 => ?_) (fun hc95 => ?_)
                · have hc95 := not_t hc95
                  have h := if_bf h hc95
                  refine aw_seq ?_
                  refine aw_region ?_
                  refine awl_val hτ rfl rfl rfl ?_
                  refine awl_nil ?_
                  refine aw_weak (weak_ofP [] (l := [(4, .d (.int .i64 (-1 : Int)))]) (objs := []) rfl (by simp) rfl (by repeat' first | exact trivial | refine ⟨?_, ?_⟩) ⟨rfl, trivial, trivial⟩) ?_
                  refine aw_ret ?_
                  have hr := Option.some.inj h
                  subst hr
                  exact ret_objs (.inr rfl) [] (objs' := []) (new := []) rfl (by simp) (by simp) rfl (by repeat' first | exact trivial | refine ⟨?_, ?_⟩) rfl rfl (by repeat' first | exact trivial | refine ⟨?_, ?_⟩) (fun _ => ⟨by simp [V.flat, V.flatA, V.flatC, D.flat], flat_nil⟩) ⟨rfl, rfl, rfl⟩
                · have hc95 := not_f hc95
                  have h := if_bt h hc95
                  refine aw_skip ?_
                  refine aw_seq ?_
                  refine aw_region ?_
                  refine awl_val hτ rfl rfl rfl ?_
                  refine awl_val hτ rfl rfl rfl ?_
                  refine awl_val hτ rfl rfl rfl ?_
                  refine awl_nil ?_
                  refine aw_seq ?_
                  refine aw_seq ?_
                  refine aw_region ?_
                  refine awl_val hτ rfl rfl rfl ?_
                  refine awl_val hτ rfl rfl rfl ?_
                  refine awl_elem hτ rfl rfl rfl (getI_some hx68).1 (map_getI hx68) rfl ?_
                  refine awl_val hτ rfl rfl rfl ?_
                  refine awl_val hτ rfl rfl rfl ?_
                  refine awl_val hτ rfl rfl rfl ?_
                  refine awl_val hτ (v := .d (.bool (!(decide (x68.Customers = (w64 ((w64 ((w64 ((w64 ((w64 ((w64 ((w64 (v38 + (1 : Int))) + (1 : Int))) + (1 : Int))) + (1 : Int))) + (1 : Int))) + (1 : Int))) + (1 : Int)))))))) rfl rfl (or_ine _ _) ?_
                  refine awl_nil ?_
                  refine aw_weak (weak_ofP [] (l := [(0, .d (.sl false (a_.map eSBus))), (1, .d (.int .i64 (w64 ((w64 ((w64 ((w64 ((w64 ((w64 ((w64 (v38 + (1 : Int))) + (1 : Int))) + (1 : Int))) + (1 : Int))) + (1 : Int))) + (1 : Int))) + (1 : Int))))), (5, .d (.int .i64 v39)), (99, .d (.bool (!(decide (x68.Customers = (w64 ((w64 ((w64 ((w64 ((w64 ((w64 ((w64 (v38 + (1 : Int))) + (1 : Int))) + (1 : Int))) + (1 : Int))) + (1 : Int))) + (1 : Int))) + (1 : Int))))))))]) (objs := []) rfl (by simp) rfl (by repeat' first | exact trivial | refine ⟨?_, ?_⟩) ⟨rfl, trivial, rfl, trivial, rfl, trivial, rfl, trivial, trivial⟩) ?_
                  refine aw_cond rfl (fun hc96 => ?_) (fun hc96 => ?_)
                  · have hc96 := not_t hc96
                    have h := if_f h hc96
                    refine aw_seq ?_
                    refine aw_region ?_
                    refine awl_val hτ rfl rfl rfl ?_
                    refine awl_nil ?_
                    refine aw_weak (weak_ofP [] (l := [(4, .d (.int .i64 (-1 : Int)))]) (objs := []) rfl (by simp) rfl (by repeat' first | exact trivial | refine ⟨?_, ?_⟩) ⟨rfl, trivial, trivial⟩) ?_
                    refine aw_ret ?_
                    have hr := Option.some.inj h
                    subst hr
                    exact ret_objs (.inr rfl) [] (objs' := []) (new := []) rfl (by simp) (by simp) rfl (by repeat' first | exact trivial | refine ⟨?_, ?_⟩) rfl rfl (by repeat' first | exact trivial | refine ⟨?_, ?_⟩) (fun _ => ⟨by simp [V.flat, V.flatA, V.flatC, D.flat], flat_nil⟩) ⟨rfl, rfl, rfl⟩
                  · have hc96 := not_f hc96
                    have h := if_t h hc96
                    refine aw_skip ?_
                    refine aw_region ?_
                    refine awl_val hτ rfl rfl rfl ?_
                    refine awl_val hτ rfl rfl rfl ?_
                    refine awl_val hτ rfl rfl rfl ?_
                    refine awl_nil ?_
                    refine aw_region ?_
                    refine awl_val hτ rfl rfl rfl ?_
                    refine awl_val hτ rfl rfl rfl ?_
                    refine awl_val hτ rfl rfl rfl ?_
                    refine awl_nil ?_
                    exact ⟨(m53, (w64 ((w64 ((w64 ((w64 ((w64 ((w64 ((w64 ((w64 (v38 + (1 : Int))) + (1 : Int))) + (1 : Int))) + (1 : Int))) + (1 : Int))) + (1 : Int))) + (1 : Int))) + (1 : Int))), (w64 (v39 + (1 : Int)))), h, Nat.lt_succ_self m53, (weak_ofP [] (l := [(0, .d (.sl false (a_.map eSBus))), (1, .d (.int .i64 (w64 ((w64 ((w64 ((w64 ((w64 ((w64 ((w64 ((w64 (v38 + (1 : Int))) + (1 : Int))) + (1 : Int))) + (1 : Int))) + (1 : Int))) + (1 : Int))) + (1 : Int))) + (1 : Int))))), (5, .d (.int .i64 (w64 (v39 + (1 : Int)))))]) (objs := []) rfl (by simp) rfl (by repeat' first | exact trivial | refine ⟨?_, ?_⟩) ⟨rfl, trivial, rfl, trivial, rfl, trivial, trivial⟩)⟩
  · have h := if_f h hc55
    refine aw_exit ?_
    refine aw_seq ?_
    refine aw_region ?_
    refine awl_val hτ rfl rfl rfl ?_
    refine awl_val hτ rfl rfl rfl ?_
    refine awl_nil ?_
    refine aw_weak (weak_ofP [] (l := [(4, .d (.int .i64 v38))]) (objs := []) rfl (by simp) rfl (by repeat' first | exact trivial | refine ⟨?_, ?_⟩) ⟨rfl, trivial, trivial⟩) ?_
    refine aw_ret ?_
    have hr := Option.some.inj h
    subst hr
    exact ret_objs (.inr rfl) [] (objs' := []) (new := []) rfl (by simp) (by simp) rfl (by repeat' first | exact trivial | refine ⟨?_, ?_⟩) rfl rfl (by repeat' first | exact trivial | refine ⟨?_, ?_⟩) (fun _ => ⟨by simp [V.flat, V.flatA, V.flatC, D.flat], flat_nil⟩) ⟨rfl, rfl, rfl⟩
theorem laws_heldBusS_ok (n : Nat) (a_ : List SBus) (k_ : Int) {r : Int} (h : m_laws_heldBusS n a_ k_ = some r) : ACall prog false 171 [.d (.sl false (a_.map eSBus)), .d (.int .i64 k_)] [] (fun v o new => v = .d (.int .i64 r) ∧ o = [] ∧ new = []) := laws_heldBusS_ok_fr0 false n a_ k_ h
theorem laws_heldBusS_ok_fr (n : Nat) (a_ : List SBus) (k_ : Int) {r : Int} (h : m_laws_heldBusS n a_ k_ = some r) : ACall prog true 171 [.d (.sl false (a_.map eSBus)), .d (.int .i64 k_)] [] (fun v o new => v = .d (.int .i64 r) ∧ o = [] ∧ new = []) := laws_heldBusS_ok_fr0 true n a_ k_ h

def m_laws_heldFeeder (n : Nat) (a_ : SFeeder) (k_ : Int) : Option Int :=
  (m_laws_heldBusS n a_.Buses k_).bind fun x2 =>
  if x2 < (0 : Int) then
    some (-1 : Int)
  else
    some x2
theorem laws_heldFeeder_ok_fr0 (fr : Bool) (n : Nat) (a_ : SFeeder) (k_ : Int) {r : Int} (h : m_laws_heldFeeder n a_ k_ = some r) : ACall prog fr 117 [.agg [.d (.cx .f32 a_.Source.A.re a_.Source.A.im), .d (.cx .f32 a_.Source.B.re a_.Source.B.im), .d (.cx .f32 a_.Source.C.re a_.Source.C.im), .d (.sl false (a_.Buses.map eSBus))], .d (.int .i64 k_)] [] (fun v o new => v = .d (.int .i64 r) ∧ o = [] ∧ new = []) := by
  refine acall_of_aw hτ func117 rfl (by simp) (by simp) ?_
  unfold m_laws_heldFeeder at h
  refine aw_seq ?_
  refine aw_region ?_
  refine awl_valH hτ rfl rfl rfl ?_
  refine awl_val hτ rfl rfl rfl ?_
  refine awl_nil ?_
  refine aw_seq ?_
  refine aw_region ?_
  refine awl_val hτ rfl rfl rfl ?_
  refine awl_val hτ rfl rfl rfl ?_
  refine awl_val hτ rfl rfl rfl ?_
  refine bnd_elim h fun x2 hx2 h => ?_
  refine awl_callP hτ false [] rfl rfl rfl (enterOk func171 rfl rfl) rfl rfl (by simp) ⟨trivial, trivial, trivial⟩ (by repeat' first | exact trivial | refine ⟨?_, ?_⟩) (laws_heldBusS_ok n a_.Buses k_ hx2) ?_
  rintro r0 o0 n0 ⟨rfl, rfl, rfl⟩ -
  refine awl_val hτ rfl rfl rfl ?_
  refine awl_nil ?_
  refine aw_seq ?_
  refine aw_seq ?_
  refine aw_weak (weak_ofP [] (l := [(1, .d (.int .i64 x2))]) (objs := []) rfl (by simp) rfl (by repeat' first | exact trivial | refine ⟨?_, ?_⟩) ⟨rfl, trivial, trivial⟩) ?_
  refine aw_region ?_
  refine awl_val hτ rfl rfl rfl ?_
  refine awl_val hτ rfl rfl rfl ?_
  refine awl_nil ?_
  refine aw_cond rfl (fun hc3 => ?_) (fun hc3 => ?_)
  · have h := if_t h hc3
    refine aw_seq ?_
    refine aw_region ?_
    refine awl_val hτ rfl rfl rfl ?_
    refine awl_nil ?_
    refine aw_weak (weak_ofP [] (l := [(4, .d (.int .i64 (-1 : Int)))]) (objs := []) rfl (by simp) rfl (by repeat' first | exact trivial | refine ⟨?_, ?_⟩) ⟨rfl, trivial, trivial⟩) ?_
    refine aw_ret ?_
    have hr := Option.some.inj h
    subst hr
    exact ret_objs (.inr rfl) [] (objs' := []) (new := []) rfl (by simp) (by simp) rfl (by repeat' first | exact trivial | refine ⟨?_, ?_⟩) rfl rfl (by repeat' first | exact trivial | refine ⟨?_, ?_⟩) (fun _ => ⟨by simp [V.flat, V.flatA, V.flatC, D.flat], flat_nil⟩) ⟨rfl, rfl, rfl⟩
  · have h := if_f h hc3
    refine aw_skip ?_
    refine aw_seq ?_
    refine aw_region ?_
    refine awl_val hτ rfl rfl rfl ?_
    refine awl_val hτ rfl rfl rfl ?_
    refine awl_nil ?_
    refine aw_weak (weak_ofP [] (l := [(4, .d (.int .i64 x2))]) (objs := []) rfl (by simp) rfl (by repeat' first | exact trivial | refine ⟨?_, ?_⟩) ⟨rfl, trivial, trivial⟩) ?_
    refine aw_ret ?_
    have hr := Option.some.inj h
    subst hr
    exact ret_objs (.inr rfl) [] (objs' := []) (new := []) rfl (by simp) (by simp) rfl (by repeat' first | exact trivial | refine ⟨?_, ?_⟩) rfl rfl (by repeat' first | exact trivial | refine ⟨?_, ?_⟩) (fun _ => ⟨by simp [V.flat, V.flatA, V.flatC, D.flat], flat_nil⟩) ⟨rfl, rfl, rfl⟩
theorem laws_heldFeeder_ok (n : Nat) (a_ : SFeeder) (k_ : Int) {r : Int} (h : m_laws_heldFeeder n a_ k_ = some r) : ACall prog false 117 [.agg [.d (.cx .f32 a_.Source.A.re a_.Source.A.im), .d (.cx .f32 a_.Source.B.re a_.Source.B.im), .d (.cx .f32 a_.Source.C.re a_.Source.C.im), .d (.sl false (a_.Buses.map eSBus))], .d (.int .i64 k_)] [] (fun v o new => v = .d (.int .i64 r) ∧ o = [] ∧ new = []) := laws_heldFeeder_ok_fr0 false n a_ k_ h
theorem laws_heldFeeder_ok_fr (n : Nat) (a_ : SFeeder) (k_ : Int) {r : Int} (h : m_laws_heldFeeder n a_ k_ = some r) : ACall prog true 117 [.agg [.d (.cx .f32 a_.Source.A.re a_.Source.A.im), .d (.cx .f32 a_.Source.B.re a_.Source.B.im), .d (.cx .f32 a_.Source.C.re a_.Source.C.im), .d (.sl false (a_.Buses.map eSBus))], .d (.int .i64 k_)] [] (fun v o new => v = .d (.int .i64 r) ∧ o = [] ∧ new = []) := laws_heldFeeder_ok_fr0 true n a_ k_ h

def m_laws_heldTapS_l1 (n : Nat) (a_ : List STap) : Nat → Int → Int → Option Int
  | 0, _, _ => none
  | m13 + 1, v8, v9 =>
    if v9 < (a_.length : Int) then
      (getI a_ v9).bind fun x18 =>
      if x18.Bus = v8 then
        if x18.A = (w64 (v8 + (1 : Int))) then
          if x18.B = (w64 ((w64 (v8 + (1 : Int))) + (1 : Int))) then
            if x18.C = (w64 ((w64 ((w64 (v8 + (1 : Int))) + (1 : Int))) + (1 : Int))) then
              if (fcmp .neq .f32 x18.Each (FloatKind.nearest .f32 (w64 ((w64 ((w64 ((w64 (v8 + (1 : Int))) + (1 : Int))) + (1 : Int))) + (1 : Int))))) = true then
                some (-1 : Int)
              else
                (m_laws_heldTapS_l1 n a_ m13) (w64 ((w64 ((w64 ((w64 ((w64 (v8 + (1 : Int))) + (1 : Int))) + (1 : Int))) + (1 : Int))) + (1 : Int))) (w64 (v9 + (1 : Int)))
            else
              some (-1 : Int)
          else
            some (-1 : Int)
        else
          some (-1 : Int)
      else
        some (-1 : Int)
    else
      some v8
def m_laws_heldTapS (n : Nat) (a_ : List STap) (k_ : Int) : Option Int :=
  m_laws_heldTapS_l1 n a_ n k_ (0 : Int)
theorem laws_heldTapS_ok_fr0 (fr : Bool) (n : Nat) (a_ : List STap) (k_ : Int) {r : Int} (h : m_laws_heldTapS n a_ k_ = some r) : ACall prog fr 118 [.d (.sl false (a_.map eSTap)), .d (.int .i64 k_)] [] (fun v o new => v = .d (.int .i64 r) ∧ o = [] ∧ new = []) := by
  refine acall_of_aw hτ func118 rfl (by simp) (by simp) ?_
  unfold m_laws_heldTapS at h
  refine aw_seq ?_
  refine aw_region ?_
  refine awl_val hτ rfl rfl rfl ?_
  refine awl_nil ?_
  refine aw_seq ?_
  refine aw_seq ?_
  refine aw_region ?_
  refine awl_val hτ rfl rfl rfl ?_
  refine awl_nil ?_
  refine aw_block ?_
  refine aw_loop (ι := Nat × Int × Int) (fun (m13, v8, v9) => St.of [(0, .d (.sl false (a_.map eSTap))), (1, .d (.int .i64 v8)), (5, .d (.int .i64 v9))] [] f118.ntmps 0) (fun (m13, v8, v9) => m_laws_heldTapS_l1 n a_ m13 v8 v9 = some r) (fun x => x.1) (n, k_, (0 : Int)) h (weak_ofP [] (l := [(0, .d (.sl false (a_.map eSTap))), (1, .d (.int .i64 k_)), (5, .d (.int .i64 (0 : Int)))]) (objs := []) rfl (by simp) rfl (by repeat' first | exact trivial | refine ⟨?_, ?_⟩) ⟨rfl, trivial, rfl, trivial, rfl, trivial, trivial⟩) ?_
  rintro ⟨m13, v8, v9⟩ h
  replace h : m_laws_heldTapS_l1 n a_ m13 v8 v9 = some r := h
  rcases m13 with _ | m13
  · rw [m_laws_heldTapS_l1] at h; cases h
  rw [m_laws_heldTapS_l1] at h
  refine aw_seq ?_
  refine aw_seq ?_
  refine aw_region ?_
  refine awl_val hτ rfl rfl rfl ?_
  refine awl_val hτ rfl rfl rfl ?_
  refine awl_val hτ (v := .d (.int .i64 (a_.length : Int))) rfl rfl (Eq.trans rfl (or_len (f := eSTap) a_)) ?_
  refine awl_val hτ rfl rfl rfl ?_
  refine awl_nil ?_
  refine aw_cond rfl (fun hc15 => ?_) (fun hc15 => ?_)
  · have h := if_t h hc15
    refine aw_skip ?_
    refine aw_seq ?_
    refine aw_block ?_
    refine aw_seq ?_
    refine aw_seq ?_
    refine aw_region ?_
    refine awl_val hτ rfl rfl rfl ?_
    refine awl_val hτ rfl rfl rfl ?_
    refine bnd_elim h fun x18 hx18 h => ?_
    refine awl_elem hτ rfl rfl rfl (getI_some hx18).1 (map_getI hx18) rfl ?_
    refine awl_val hτ rfl rfl rfl ?_
    refine awl_val hτ rfl rfl rfl ?_
    refine awl_val hτ rfl rfl rfl ?_
    refine awl_val hτ (v := .d (.bool (!(decide (x18.Bus = v8))))) rfl rfl (or_ine _ _) ?_
    refine awl_nil ?_
    refine aw_weak (weak_ofP [] (l := [(0, .d (.sl false (a_.map eSTap))), (1, .d (.int .i64 v8)), (5, .d (.int .i64 v9)), (18, .d (.bool (!(decide (x18.Bus = v8)))))]) (objs := []) rfl (by simp) rfl (by repeat' first | exact trivial | refine ⟨?_, ?_⟩) ⟨rfl, trivial, rfl, trivial, rfl, trivial, rfl, trivial, trivial⟩) ?_
    refine aw_cond rfl (fun hc19 => ?_) (fun hc19 => ?_)
    · have hc19 := not_t hc19
      have h := if_f h hc19
      refine aw_seq ?_
      refine aw_region ?_
      refine awl_val hτ rfl rfl rfl ?_
      refine awl_nil ?_
      refine aw_weak (weak_ofP [] (l := [(4, .d (.int .i64 (-1 : Int)))]) (objs := []) rfl (by simp) rfl (by repeat' first | exact trivial | refine ⟨?_, ?_⟩) ⟨rfl, trivial, trivial⟩) ?_
      refine aw_ret ?_
      have hr := Option.some.inj h
      subst hr
      exact ret_objs (.inr rfl) [] (objs' := []) (new := []) rfl (by simp) (by simp) rfl (by repeat' first | exact trivial | refine ⟨?_, ?_⟩) rfl rfl (by repeat' first | exact trivial | refine ⟨?_, ?_⟩) (fun _ => ⟨by simp [V.flat, V.flatA, V.flatC, D.flat], flat_nil⟩) ⟨rfl, rfl, rfl⟩
    · have hc19 := not_f hc19
      have h := if_t h hc19
      refine aw_skip ?_
      refine aw_seq ?_
      refine aw_region ?_
      refine awl_val hτ rfl rfl rfl ?_
      refine awl_val hτ rfl rfl rfl ?_
      refine awl_val hτ rfl rfl rfl ?_
      refine awl_nil ?_
      refine aw_seq ?_
      refine aw_seq ?_
      refine aw_region ?_
      refine awl_val hτ rfl rfl rfl ?_
      refine awl_val hτ rfl rfl rfl ?_
      refine awl_elem hτ rfl rfl rfl (getI_some hx18).1 (map_getI hx18) rfl ?_
      refine awl_val hτ rfl rfl rfl ?_
      refine awl_val hτ rfl rfl rfl ?_
      refine awl_val hτ rfl rfl rfl ?_
      refine awl_val hτ (v := .d (.bool (!(decide (x18.A = (w64 (v8 + (1 : Int)))))))) rfl rfl (or_ine _ _) ?_
      refine awl_nil ?_
      refine aw_weak (weak_ofP [] (l := [(0, .d (.sl false (a_.map eSTap))), (1, .d (.int .i64 (w64 (v8 + (1 : Int))))), (5, .d (.int .i64 v9)), (27, .d (.bool (!(decide (x18.A = (w64 (v8 + (1 : Int))))))))]) (objs := []) rfl (by simp) rfl (by repeat' first | exact trivial | refine ⟨?_, ?_⟩) ⟨rfl, trivial, rfl, trivial, rfl, trivial, rfl, trivial, trivial⟩) ?_
      refine aw_cond rfl (fun hc20 => ?_) (fun hc20 => ?_)
      · have hc20 := not_t hc20
        have h := if_f h hc20
        refine aw_seq ?_
        refine aw_region ?_
        refine awl_val hτ rfl rfl rfl ?_
        refine awl_nil ?_
        refine aw_weak (weak_ofP [] (l := [(4, .d (.int .i64 (-1 : Int)))]) (objs := []) rfl (by simp) rfl (by repeat' first | exact trivial | refine ⟨?_, ?_⟩) ⟨rfl, trivial, trivial⟩) ?_
        refine aw_ret ?_
        have hr := Option.some.inj h
        subst hr
        exact ret_objs (.inr rfl) [] (objs' := []) (new := []) rfl (by simp) (by simp) rfl (by repeat' first | exact trivial | refine ⟨?_, ?_⟩) rfl rfl (by repeat' first | exact trivial | refine ⟨?_, ?_⟩) (fun _ => ⟨by simp [V.flat, V.flatA, V.flatC, D.flat], flat_nil⟩) ⟨rfl, rfl, rfl⟩
      · have hc20 := not_f hc20
        have h := if_t h hc20
        refine aw_skip ?_
        refine aw_seq ?_
        refine aw_region ?_
        refine awl_val hτ rfl rfl rfl ?_
        refine awl_val hτ rfl rfl rfl ?_
        refine awl_val hτ rfl rfl rfl ?_
        refine awl_nil ?_
        refine aw_seq ?_
        refine aw_seq ?_
        refine aw_region ?_
        refine awl_val hτ rfl rfl rfl ?_
        refine awl_val hτ rfl rfl rfl ?_
        refine awl_elem hτ rfl rfl rfl (getI_some hx18).1 (map_getI hx18) rfl ?_
        refine awl_val hτ rfl rfl rfl ?_
        refine awl_val hτ rfl rfl rfl ?_
        refine awl_val hτ rfl rfl rfl ?_
        refine awl_val hτ (v := .d (.bool (!(decide (x18.B = (w64 ((w64 (v8 + (1 : Int))) + (1 : Int)))))))) rfl rfl (or_ine _ _) ?_
        refine awl_nil ?_
        refine aw_weak (weak_ofP [] (l := [(0, .d (.sl false (a_.map eSTap))), (1, .d (.int .i64 (w64 ((w64 (v8 + (1 : Int))) + (1 : Int))))), (5, .d (.int .i64 v9)), (36, .d (.bool (!(decide (x18.B = (w64 ((w64 (v8 + (1 : Int))) + (1 : Int))))))))]) (objs := []) rfl (by simp) rfl (by repeat' first | exact trivial | refine ⟨?_, ?_⟩) ⟨rfl, trivial, rfl, trivial, rfl, trivial, rfl, trivial, trivial⟩) ?_
        refine aw_cond rfl (fun hc21 => ?_) (fun hc21 => ?_)
        · have hc21 := not_t hc21
          have h := if_f h hc21
          refine aw_seq ?_
          refine aw_region ?_
          refine awl_val hτ rfl rfl rfl ?_
          refine awl_nil ?_
          refine aw_weak (weak_ofP [] (l := [(4, .d (.int .i64 (-1 : Int)))]) (objs := []) rfl (by simp) rfl (by repeat' first | exact trivial | refine ⟨?_, ?_⟩) ⟨rfl, trivial, trivial⟩) ?_
          refine aw_ret ?_
          have hr := Option.some.inj h
          subst hr
          exact ret_objs (.inr rfl) [] (objs' := []) (new := []) rfl (by simp) (by simp) rfl (by repeat' first | exact trivial | refine ⟨?_, ?_⟩) rfl rfl (by repeat' first | exact trivial | refine ⟨?_, ?_⟩) (fun _ => ⟨by simp [V.flat, V.flatA, V.flatC, D.flat], flat_nil⟩) ⟨rfl, rfl, rfl⟩
        · have hc21 := not_f hc21
          have h := if_t h hc21
          refine aw_skip ?_
          refine aw_seq ?_
          refine aw_region ?_
          refine awl_val hτ rfl rfl rfl ?_
          refine awl_val hτ rfl rfl rfl ?_
          refine awl_val hτ rfl rfl rfl ?_
          refine awl_nil ?_
          refine aw_seq ?_
          refine aw_seq ?_
          refine aw_region ?_
          refine awl_val hτ rfl rfl rfl ?_
          refine awl_val hτ rfl rfl rfl ?_
          refine awl_elem hτ rfl rfl rfl (getI_some hx18).1 (map_getI hx18) rfl ?_
          refine awl_val hτ rfl rfl rfl ?_
          refine awl_val hτ rfl rfl rfl ?_
          refine awl_val hτ rfl rfl rfl ?_
          refine awl_val hτ (v := .d (.bool (!(decide (x18.C = (w64 ((w64 ((w64 (v8 + (1 : Int))) + (1 : Int))) + (1 : Int)))))))) rfl rfl (or_ine _ _) ?_
          refine awl_nil ?_
          refine aw_weak (weak_ofP [] (l := [(0, .d (.sl false (a_.map eSTap))), (1, .d (.int .i64 (w64 ((w64 ((w64 (v8 + (1 : Int))) + (1 : Int))) + (1 : Int))))), (5, .d (.int .i64 v9)), (45, .d (.bool (!(decide (x18.C = (w64 ((w64 ((w64 (v8 + (1 : Int))) + (1 : Int))) + (1 : Int))))))))]) (objs := []) rfl (by simp) rfl (by repeat' first | exact trivial | refine ⟨?_, ?_⟩) ⟨rfl, trivial, rfl, trivial, rfl, trivial, rfl, trivial, trivial⟩) ?_
          refine aw_cond rfl (fun hc22 => ?_) (fun hc22 => ?_)
          · have hc22 := not_t hc22
            have h := if_f h hc22
            refine aw_seq ?_
            refine aw_region ?_
            refine awl_val hτ rfl rfl rfl ?_
            refine awl_nil ?_
            refine aw_weak (weak_ofP [] (l := [(4, .d (.int .i64 (-1 : Int)))]) (objs := []) rfl (by simp) rfl (by repeat' first | exact trivial | refine ⟨?_, ?_⟩) ⟨rfl, trivial, trivial⟩) ?_
            refine aw_ret ?_
            have hr := Option.some.inj h
            subst hr
            exact ret_objs (.inr rfl) [] (objs' := []) (new := []) rfl (by simp) (by simp) rfl (by repeat' first | exact trivial | refine ⟨?_, ?_⟩) rfl rfl (by repeat' first | exact trivial | refine ⟨?_, ?_⟩) (fun _ => ⟨by simp [V.flat, V.flatA, V.flatC, D.flat], flat_nil⟩) ⟨rfl, rfl, rfl⟩
          · have hc22 := not_f hc22
            have h := if_t h hc22
            refine aw_skip ?_
            refine aw_seq ?_
            refine aw_region ?_
            refine awl_val hτ rfl rfl rfl ?_
            refine awl_val hτ rfl rfl rfl ?_
            refine awl_val hτ rfl rfl rfl ?_
            refine awl_nil ?_
            refine aw_seq ?_
            refine aw_seq ?_
            refine aw_region ?_
            refine awl_val hτ rfl rfl rfl ?_
            refine awl_val hτ rfl rfl rfl ?_
            refine awl_elem hτ rfl rfl rfl (getI_some hx18).1 (map_getI hx18) rfl ?_
            refine awl_val hτ rfl rfl rfl ?_
            refine awl_val hτ rfl rfl rfl ?_
            refine awl_val hτ rfl rfl rfl ?_
            refine awl_val hτ rfl rfl rfl ?_
            refine awl_val hτ rfl rfl rfl ?_
            refine awl_nil ?_
            refine aw_weak (weak_ofP [] (l := [(0, .d (.sl false (a_.map eSTap))), (1, .d (.int .i64 (w64 ((w64 ((w64 ((w64 (v8 + (1 : Int))) + (1 : Int))) + (1 : Int))) + (1 : Int))))), (5, .d (.int .i64 v9)), (55, .d (.bool (fcmp .neq .f32 x18.Each (FloatKind.nearest .f32 (w64 ((w64 ((w64 ((w64 (v8 + (1 : Int))) + (1 : Int))) + (1 : Int))) + (1 : Int)))))))]) (objs := []) rfl (by simp) rfl (by repeat' first | exact trivial | refine ⟨?_, ?_⟩) ⟨rfl, trivial, rfl, trivial, rfl, trivial, rfl, trivial, trivial⟩) ?_
            refine aw_cond rfl (fun hc23 => ?_) (fun hc23 => ?_)
            · have h := if_bt h hc23
              refine aw_seq ?_
              refine aw_region ?_
              refine awl_val hτ rfl rfl rfl ?_
              refine awl_nil ?_
              refine aw_weak (weak_ofP [] (l := [(4, .d (.int .i64 (-1 : Int)))]) (objs := []) rfl (by simp) rfl (by repeat' first | exact trivial | refine ⟨?_, ?_⟩) ⟨rfl, trivial, trivial⟩) ?_
              refine aw_ret ?_
              have hr := Option.some.inj h
              subst hr
              exact ret_objs (.inr rfl) [] (objs' := []) (new := []) rfl (by simp) (by simp) rfl (by repeat' first | exact trivial | refine ⟨?_, ?_⟩) rfl rfl (by repeat' first | exact trivial | refine ⟨?_, ?_⟩) (fun _ => ⟨by simp [V.flat, V.flatA, V.flatC, D.flat], flat_nil⟩) ⟨rfl, rfl, rfl⟩
            · have h := if_bf h hc23
              refine aw_skip ?_
              refine aw_region ?_
              refine awl_val hτ rfl rfl rfl ?_
              refine awl_val hτ rfl rfl rfl ?_
              refine awl_val hτ rfl rfl rfl ?_
              refine awl_nil ?_
              refine aw_region ?_
              refine awl_val hτ rfl rfl rfl ?_
              refine awl_val hτ rfl rfl rfl ?_
              refine awl_val hτ rfl rfl rfl ?_
              refine awl_nil ?_
              exact ⟨(m13, (w64 ((w64 ((w64 ((w64 ((w64 (v8 + (1 : Int))) + (1 : Int))) + (1 : Int))) + (1 : Int))) + (1 : Int))), (w64 (v9 + (1 : Int)))), h, Nat.lt_succ_self m13, (weak_ofP [] (l := [(0, .d (.sl false (a_.map eSTap))), (1, .d (.int .i64 (w64 ((w64 ((w64 ((w64 ((w64 (v8 + (1 : Int))) + (1 : Int))) + (1 : Int))) + (1 : Int))) + (1 : Int))))), (5, .d (.int .i64 (w64 (v9 + (1 : Int)))))]) (objs := []) rfl (by simp) rfl (by repeat' first | exact trivial | refine ⟨?_, ?_⟩) ⟨rfl, trivial, rfl, trivial, rfl, trivial, trivial⟩)⟩
  · have h := if_f h hc15
    refine aw_exit ?_
    refine aw_seq ?_
    refine aw_region ?_
    refine awl_val hτ rfl rfl rfl ?_
    refine awl_val hτ rfl rfl rfl ?_
    refine awl_nil ?_
    refine aw_weak (weak_ofP [] (l := [(4, .d (.int .i64 v8))]) (objs := []) rfl (by simp) rfl (by repeat' first | exact trivial | refine ⟨?_, ?_⟩) ⟨rfl, trivial, trivial⟩) ?_
    refine aw_ret ?_
    have hr := Option.some.inj h
    subst hr
    exact ret_objs (.inr rfl) [] (objs' := []) (new := []) rfl (by simp) (by simp) rfl (by repeat' first | exact trivial | refine ⟨?_, ?_⟩) rfl rfl (by repeat' first | exact trivial | refine ⟨?_, ?_⟩) (fun _ => ⟨by simp [V.flat, V.flatA, V.flatC, D.flat], flat_nil⟩) ⟨rfl, rfl, rfl⟩
theorem laws_heldTapS_ok (n : Nat) (a_ : List STap) (k_ : Int) {r : Int} (h : m_laws_heldTapS n a_ k_ = some r) : ACall prog false 118 [.d (.sl false (a_.map eSTap)), .d (.int .i64 k_)] [] (fun v o new => v = .d (.int .i64 r) ∧ o = [] ∧ new = []) := laws_heldTapS_ok_fr0 false n a_ k_ h
theorem laws_heldTapS_ok_fr (n : Nat) (a_ : List STap) (k_ : Int) {r : Int} (h : m_laws_heldTapS n a_ k_ = some r) : ACall prog true 118 [.d (.sl false (a_.map eSTap)), .d (.int .i64 k_)] [] (fun v o new => v = .d (.int .i64 r) ∧ o = [] ∧ new = []) := laws_heldTapS_ok_fr0 true n a_ k_ h

def m_laws_heldOutageS_l1 (n : Nat) (a_ : List SOutage) : Nat → Int → Int → Option Int
  | 0, _, _ => none
  | m13 + 1, v8, v9 =>
    if v9 < (a_.length : Int) then
      (getI a_ v9).bind fun x18 =>
      if x18.Bus = v8 then
        if x18.From = (w64 (v8 + (1 : Int))) then
          if x18.Until = (w64 ((w64 (v8 + (1 : Int))) + (1 : Int))) then
            (m_laws_heldOutageS_l1 n a_ m13) (w64 ((w64 ((w64 (v8 + (1 : Int))) + (1 : Int))) + (1 : Int))) (w64 (v9 + (1 : Int)))
          else
            some (-1 : Int)
        else
          some (-1 : Int)
      else
        some (-1 : Int)
    else
      some v8
def m_laws_heldOutageS (n : Nat) (a_ : List SOutage) (k_ : Int) : Option Int :=
  m_laws_heldOutageS_l1 n a_ n k_ (0 : Int)
theorem laws_heldOutageS_ok_fr0 (fr : Bool) (n : Nat) (a_ : List SOutage) (k_ : Int) {r : Int} (h : m_laws_heldOutageS n a_ k_ = some r) : ACall prog fr 119 [.d (.sl false (a_.map eSOutage)), .d (.int .i64 k_)] [] (fun v o new => v = .d (.int .i64 r) ∧ o = [] ∧ new = []) := by
  refine acall_of_aw hτ func119 rfl (by simp) (by simp) ?_
  unfold m_laws_heldOutageS at h
  refine aw_seq ?_
  refine aw_region ?_
  refine awl_val hτ rfl rfl rfl ?_
  refine awl_nil ?_
  refine aw_seq ?_
  refine aw_seq ?_
  refine aw_region ?_
  refine awl_val hτ rfl rfl rfl ?_
  refine awl_nil ?_
  refine aw_block ?_
  refine aw_loop (ι := Nat × Int × Int) (fun (m13, v8, v9) => St.of [(0, .d (.sl false (a_.map eSOutage))), (1, .d (.int .i64 v8)), (5, .d (.int .i64 v9))] [] f119.ntmps 0) (fun (m13, v8, v9) => m_laws_heldOutageS_l1 n a_ m13 v8 v9 = some r) (fun x => x.1) (n, k_, (0 : Int)) h (weak_ofP [] (l := [(0, .d (.sl false (a_.map eSOutage))), (1, .d (.int .i64 k_)), (5, .d (.int .i64 (0 : Int)))]) (objs := []) rfl (by simp) rfl (by repeat' first | exact trivial | refine ⟨?_, ?_⟩) ⟨rfl, trivial, rfl, trivial, rfl, trivial, trivial⟩) ?_
  rintro ⟨m13, v8, v9⟩ h
  replace h : m_laws_heldOutageS_l1 n a_ m13 v8 v9 = some r := h
  rcases m13 with _ | m13
  · rw [m_laws_heldOutageS_l1] at h; cases h
  rw [m_laws_heldOutageS_l1] at h
  refine aw_seq ?_
  refine aw_seq ?_
  refine aw_region ?_
  refine awl_val hτ rfl rfl rfl ?_
  refine awl_val hτ rfl rfl rfl ?_
  refine awl_val hτ (v := .d (.int .i64 (a_.length : Int))) rfl rfl (Eq.trans rfl (or_len (f := eSOutage) a_)) ?_
  refine awl_val hτ rfl rfl rfl ?_
  refine awl_nil ?_
  refine aw_cond rfl (fun hc15 => ?_) (fun hc15 => ?_)
  · have h := if_t h hc15
    refine aw_skip ?_
    refine aw_seq ?_
    refine aw_block ?_
    refine aw_seq ?_
    refine aw_seq ?_
    refine aw_region ?_
    refine awl_val hτ rfl rfl rfl ?_
    refine awl_val hτ rfl rfl rfl ?_
    refine bnd_elim h fun x18 hx18 h => ?_
    refine awl_elem hτ rfl rfl rfl (getI_some hx18).1 (map_getI hx18) rfl ?_
    refine awl_val hτ rfl rfl rfl ?_
    refine awl_val hτ rfl rfl rfl ?_
    refine awl_val hτ rfl rfl rfl ?_
    refine awl_val hτ (v := .d (.bool (!(decide (x18.Bus = v8))))) rfl rfl (or_ine _ _) ?_
    refine awl_nil ?_
    refine aw_weak (weak_ofP [] (l := [(0, .d (.sl false (a_.map eSOutage))), (1, .d (.int .i64 v8)), (5, .d (.int .i64 v9)), (18, .d (.bool (!(decide (x18.Bus = v8)))))]) (objs := []) rfl (by simp) rfl (by repeat' first | exact trivial | refine ⟨?_, ?_⟩) ⟨rfl, trivial, rfl, trivial, rfl, trivial, rfl, trivial, trivial⟩) ?_
    refine aw_cond rfl (fun hc19 => ?_) (fun hc19 => ?_)
    · have hc19 := not_t hc19
      have h := if_f h hc19
      refine aw_seq ?_
      refine aw_region ?_
      refine awl_val hτ rfl rfl rfl ?_
      refine awl_nil ?_
      refine aw_weak (weak_ofP [] (l := [(4, .d (.int .i64 (-1 : Int)))]) (objs := []) rfl (by simp) rfl (by repeat' first | exact trivial | refine ⟨?_, ?_⟩) ⟨rfl, trivial, trivial⟩) ?_
      refine aw_ret ?_
      have hr := Option.some.inj h
      subst hr
      exact ret_objs (.inr rfl) [] (objs' := []) (new := []) rfl (by simp) (by simp) rfl (by repeat' first | exact trivial | refine ⟨?_, ?_⟩) rfl rfl (by repeat' first | exact trivial | refine ⟨?_, ?_⟩) (fun _ => ⟨by simp [V.flat, V.flatA, V.flatC, D.flat], flat_nil⟩) ⟨rfl, rfl, rfl⟩
    · have hc19 := not_f hc19
      have h := if_t h hc19
      refine aw_skip ?_
      refine aw_seq ?_
      refine aw_region ?_
      refine awl_val hτ rfl rfl rfl ?_
      refine awl_val hτ rfl rfl rfl ?_
      refine awl_val hτ rfl rfl rfl ?_
      refine awl_nil ?_
      refine aw_seq ?_
      refine aw_seq ?_
      refine aw_region ?_
      refine awl_val hτ rfl rfl rfl ?_
      refine awl_val hτ rfl rfl rfl ?_
      refine awl_elem hτ rfl rfl rfl (getI_some hx18).1 (map_getI hx18) rfl ?_
      refine awl_val hτ rfl rfl rfl ?_
      refine awl_val hτ rfl rfl rfl ?_
      refine awl_val hτ rfl rfl rfl ?_
      refine awl_val hτ (v := .d (.bool (!(decide (x18.From = (w64 (v8 + (1 : Int)))))))) rfl rfl (or_ine _ _) ?_
      refine awl_nil ?_
      refine aw_weak (weak_ofP [] (l := [(0, .d (.sl false (a_.map eSOutage))), (1, .d (.int .i64 (w64 (v8 + (1 : Int))))), (5, .d (.int .i64 v9)), (27, .d (.bool (!(decide (x18.From = (w64 (v8 + (1 : Int))))))))]) (objs := []) rfl (by simp) rfl (by repeat' first | exact trivial | refine ⟨?_, ?_⟩) ⟨rfl, trivial, rfl, trivial, rfl, trivial, rfl, trivial, trivial⟩) ?_
      refine aw_cond rfl (fun hc20 => ?_) (fun hc20 => ?_)
      · have hc20 := not_t hc20
        have h := if_f h hc20
        refine aw_seq ?_
        refine aw_region ?_
        refine awl_val hτ rfl rfl rfl ?_
        refine awl_nil ?_
        refine aw_weak (weak_ofP [] (l := [(4, .d (.int .i64 (-1 : Int)))]) (objs := []) rfl (by simp) rfl (by repeat' first | exact trivial | refine ⟨?_, ?_⟩) ⟨rfl, trivial, trivial⟩) ?_
        refine aw_ret ?_
        have hr := Option.some.inj h
        subst hr
        exact ret_objs (.inr rfl) [] (objs' := []) (new := []) rfl (by simp) (by simp) rfl (by repeat' first | exact trivial | refine ⟨?_, ?_⟩) rfl rfl (by repeat' first | exact trivial | refine ⟨?_, ?_⟩) (fun _ => ⟨by simp [V.flat, V.flatA, V.flatC, D.flat], flat_nil⟩) ⟨rfl, rfl, rfl⟩
      · have hc20 := not_f hc20
        have h := if_t h hc20
        refine aw_skip ?_
        refine aw_seq ?_
        refine aw_region ?_
        refine awl_val hτ rfl rfl rfl ?_
        refine awl_val hτ rfl rfl rfl ?_
        refine awl_val hτ rfl rfl rfl ?_
        refine awl_nil ?_
        refine aw_seq ?_
        refine aw_seq ?_
        refine aw_region ?_
        refine awl_val hτ rfl rfl rfl ?_
        refine awl_val hτ rfl rfl rfl ?_
        refine awl_elem hτ rfl rfl rfl (getI_some hx18).1 (map_getI hx18) rfl ?_
        refine awl_val hτ rfl rfl rfl ?_
        refine awl_val hτ rfl rfl rfl ?_
        refine awl_val hτ rfl rfl rfl ?_
        refine awl_val hτ (v := .d (.bool (!(decide (x18.Until = (w64 ((w64 (v8 + (1 : Int))) + (1 : Int)))))))) rfl rfl (or_ine _ _) ?_
        refine awl_nil ?_
        refine aw_weak (weak_ofP [] (l := [(0, .d (.sl false (a_.map eSOutage))), (1, .d (.int .i64 (w64 ((w64 (v8 + (1 : Int))) + (1 : Int))))), (5, .d (.int .i64 v9)), (36, .d (.bool (!(decide (x18.Until = (w64 ((w64 (v8 + (1 : Int))) + (1 : Int))))))))]) (objs := []) rfl (by simp) rfl (by repeat' first | exact trivial | refine ⟨?_, ?_⟩) ⟨rfl, trivial, rfl, trivial, rfl, trivial, rfl, trivial, trivial⟩) ?_
        refine aw_cond rfl (fun hc21 => ?_) (fun hc21 => ?_)
        · have hc21 := not_t hc21
          have h := if_f h hc21
          refine aw_seq ?_
          refine aw_region ?_
          refine awl_val hτ rfl rfl rfl ?_
          refine awl_nil ?_
          refine aw_weak (weak_ofP [] (l := [(4, .d (.int .i64 (-1 : Int)))]) (objs := []) rfl (by simp) rfl (by repeat' first | exact trivial | refine ⟨?_, ?_⟩) ⟨rfl, trivial, trivial⟩) ?_
          refine aw_ret ?_
          have hr := Option.some.inj h
          subst hr
          exact ret_objs (.inr rfl) [] (objs' := []) (new := []) rfl (by simp) (by simp) rfl (by repeat' first | exact trivial | refine ⟨?_, ?_⟩) rfl rfl (by repeat' first | exact trivial | refine ⟨?_, ?_⟩) (fun _ => ⟨by simp [V.flat, V.flatA, V.flatC, D.flat], flat_nil⟩) ⟨rfl, rfl, rfl⟩
        · have hc21 := not_f hc21
          have h := if_t h hc21
          refine aw_skip ?_
          refine aw_region ?_
          refine awl_val hτ rfl rfl rfl ?_
          refine awl_val hτ rfl rfl rfl ?_
          refine awl_val hτ rfl rfl rfl ?_
          refine awl_nil ?_
          refine aw_region ?_
          refine awl_val hτ rfl rfl rfl ?_
          refine awl_val hτ rfl rfl rfl ?_
          refine awl_val hτ rfl rfl rfl ?_
          refine awl_nil ?_
          exact ⟨(m13, (w64 ((w64 ((w64 (v8 + (1 : Int))) + (1 : Int))) + (1 : Int))), (w64 (v9 + (1 : Int)))), h, Nat.lt_succ_self m13, (weak_ofP [] (l := [(0, .d (.sl false (a_.map eSOutage))), (1, .d (.int .i64 (w64 ((w64 ((w64 (v8 + (1 : Int))) + (1 : Int))) + (1 : Int))))), (5, .d (.int .i64 (w64 (v9 + (1 : Int)))))]) (objs := []) rfl (by simp) rfl (by repeat' first | exact trivial | refine ⟨?_, ?_⟩) ⟨rfl, trivial, rfl, trivial, rfl, trivial, trivial⟩)⟩
  · have h := if_f h hc15
    refine aw_exit ?_
    refine aw_seq ?_
    refine aw_region ?_
    refine awl_val hτ rfl rfl rfl ?_
    refine awl_val hτ rfl rfl rfl ?_
    refine awl_nil ?_
    refine aw_weak (weak_ofP [] (l := [(4, .d (.int .i64 v8))]) (objs := []) rfl (by simp) rfl (by repeat' first | exact trivial | refine ⟨?_, ?_⟩) ⟨rfl, trivial, trivial⟩) ?_
    refine aw_ret ?_
    have hr := Option.some.inj h
    subst hr
    exact ret_objs (.inr rfl) [] (objs' := []) (new := []) rfl (by simp) (by simp) rfl (by repeat' first | exact trivial | refine ⟨?_, ?_⟩) rfl rfl (by repeat' first | exact trivial | refine ⟨?_, ?_⟩) (fun _ => ⟨by simp [V.flat, V.flatA, V.flatC, D.flat], flat_nil⟩) ⟨rfl, rfl, rfl⟩
theorem laws_heldOutageS_ok (n : Nat) (a_ : List SOutage) (k_ : Int) {r : Int} (h : m_laws_heldOutageS n a_ k_ = some r) : ACall prog false 119 [.d (.sl false (a_.map eSOutage)), .d (.int .i64 k_)] [] (fun v o new => v = .d (.int .i64 r) ∧ o = [] ∧ new = []) := laws_heldOutageS_ok_fr0 false n a_ k_ h
theorem laws_heldOutageS_ok_fr (n : Nat) (a_ : List SOutage) (k_ : Int) {r : Int} (h : m_laws_heldOutageS n a_ k_ = some r) : ACall prog true 119 [.d (.sl false (a_.map eSOutage)), .d (.int .i64 k_)] [] (fun v o new => v = .d (.int .i64 r) ∧ o = [] ∧ new = []) := laws_heldOutageS_ok_fr0 true n a_ k_ h

def m_laws_heldDesk (n : Nat) (a_ : SDesk) (k_ : Int) : Option Int :=
  (m_laws_heldFeeder n a_.Feeder k_).bind fun x4 =>
  if x4 < (0 : Int) then
    some (-1 : Int)
  else
    (m_laws_heldTapS n a_.Taps x4).bind fun x6 =>
    if x6 < (0 : Int) then
      some (-1 : Int)
    else
      (m_laws_heldOutageS n a_.List x6).bind fun x8 =>
      if x8 < (0 : Int) then
        some (-1 : Int)
      else
        some x8
theorem laws_heldDesk_ok_fr0 (fr : Bool) (n : Nat) (a_ : SDesk) (k_ : Int) {r : Int} (h : m_laws_heldDesk n a_ k_ = some r) : ACall prog fr 50 [.agg [.d (.cx .f32 a_.Feeder.Source.A.re a_.Feeder.Source.A.im), .d (.cx .f32 a_.Feeder.Source.B.re a_.Feeder.Source.B.im), .d (.cx .f32 a_.Feeder.Source.C.re a_.Feeder.Source.C.im), .d (.sl false (a_.Feeder.Buses.map eSBus)), .d (.sl false (a_.Taps.map eSTap)), .d (.sl false (a_.List.map eSOutage))], .d (.int .i64 k_)] [] (fun v o new => v = .d (.int .i64 r) ∧ o = [] ∧ new = []) := by
  refine acall_of_aw hτ func50 rfl (by simp) (by simp) ?_
  unfold m_laws_heldDesk at h
  refine aw_seq ?_
  refine aw_region ?_
  refine awl_valH hτ rfl rfl rfl ?_
  refine awl_val hτ rfl rfl rfl ?_
  refine awl_nil ?_
  refine aw_seq ?_
  refine aw_region ?_
  refine awl_val hτ rfl rfl rfl ?_
  refine awl_val hτ rfl rfl rfl ?_
  refine awl_val hτ rfl rfl rfl ?_
  refine bnd_elim h fun x4 hx4 h => ?_
  refine awl_callP hτ false [] rfl rfl rfl (enterOk func117 rfl rfl) rfl rfl (by simp) ⟨(by repeat' first | exact trivial | refine ⟨?_, ?_⟩), trivial, trivial⟩ (by repeat' first | exact trivial | refine ⟨?_, ?_⟩) (laws_heldFeeder_ok n a_.Feeder k_ hx4) ?_
  rintro r0 o0 n0 ⟨rfl, rfl, rfl⟩ -
  refine awl_val hτ rfl rfl rfl ?_
  refine awl_nil ?_
  refine aw_seq ?_
  refine aw_seq ?_
  refine aw_weak (weak_ofP [0] (l := [(1, .d (.int .i64 x4)), (2, .ptr 0 0)]) (objs := [.box [.d (.cx .f32 a_.Feeder.Source.A.re a_.Feeder.Source.A.im), .d (.cx .f32 a_.Feeder.Source.B.re a_.Feeder.Source.B.im), .d (.cx .f32 a_.Feeder.Source.C.re a_.Feeder.Source.C.im), .d (.sl false (a_.Feeder.Buses.map eSBus)), .d (.sl false (a_.Taps.map eSTap)), .d (.sl false (a_.List.map eSOutage))]]) rfl (by simp) rfl (by repeat' first | exact trivial | refine ⟨?_, ?_⟩) ⟨rfl, trivial, rfl, trivial, trivial⟩) ?_
  refine aw_region ?_
  refine awl_val hτ rfl rfl rfl ?_
  refine awl_val hτ rfl rfl rfl ?_
  refine awl_nil ?_
  refine aw_cond rfl (fun hc5 => ?_) (fun hc5 => ?_)
  · have h := if_t h hc5
    refine aw_seq ?_
    refine aw_region ?_
    refine awl_val hτ rfl rfl rfl ?_
    refine awl_nil ?_
    refine aw_weak (weak_ofP [] (l := [(4, .d (.int .i64 (-1 : Int)))]) (objs := []) rfl (by simp) rfl (by repeat' first | exact trivial | refine ⟨?_, ?_⟩) ⟨rfl, trivial, trivial⟩) ?_
    refine aw_ret ?_
    have hr := Option.some.inj h
    subst hr
    exact ret_objs (.inr rfl) [] (objs' := []) (new := []) rfl (by simp) (by simp) rfl (by repeat' first | exact trivial | refine ⟨?_, ?_⟩) rfl rfl (by repeat' first | exact trivial | refine ⟨?_, ?_⟩) (fun _ => ⟨by simp [V.flat, V.flatA, V.flatC, D.flat], flat_nil⟩) ⟨rfl, rfl, rfl⟩
  · have h := if_f h hc5
    refine aw_skip ?_
    refine aw_seq ?_
    refine aw_region ?_
    refine awl_val hτ rfl rfl rfl ?_
    refine awl_val hτ rfl rfl rfl ?_
    refine awl_val hτ rfl rfl rfl ?_
    refine bnd_elim h fun x6 hx6 h => ?_
    refine awl_callP hτ false [] rfl rfl rfl (enterOk func118 rfl rfl) rfl rfl (by simp) ⟨trivial, trivial, trivial⟩ (by repeat' first | exact trivial | refine ⟨?_, ?_⟩) (laws_heldTapS_ok n a_.Taps x4 hx6) ?_
    rintro r0 o0 n0 ⟨rfl, rfl, rfl⟩ -
    refine awl_val hτ rfl rfl rfl ?_
    refine awl_nil ?_
    refine aw_seq ?_
    refine aw_seq ?_
    refine aw_weak (weak_ofP [0] (l := [(1, .d (.int .i64 x6)), (2, .ptr 0 0)]) (objs := [.box [.d (.cx .f32 a_.Feeder.Source.A.re a_.Feeder.Source.A.im), .d (.cx .f32 a_.Feeder.Source.B.re a_.Feeder.Source.B.im), .d (.cx .f32 a_.Feeder.Source.C.re a_.Feeder.Source.C.im), .d (.sl false (a_.Feeder.Buses.map eSBus)), .d (.sl false (a_.Taps.map eSTap)), .d (.sl false (a_.List.map eSOutage))]]) rfl (by simp) rfl (by repeat' first | exact trivial | refine ⟨?_, ?_⟩) ⟨rfl, trivial, rfl, trivial, trivial⟩) ?_
    refine aw_region ?_
    refine awl_val hτ rfl rfl rfl ?_
    refine awl_val hτ rfl rfl rfl ?_
    refine awl_nil ?_
    refine aw_cond rfl (fun hc7 => ?_) (fun hc7 => ?_)
    · have h := if_t h hc7
      refine aw_seq ?_
      refine aw_region ?_
      refine awl_val hτ rfl rfl rfl ?_
      refine awl_nil ?_
      refine aw_weak (weak_ofP [] (l := [(4, .d (.int .i64 (-1 : Int)))]) (objs := []) rfl (by simp) rfl (by repeat' first | exact trivial | refine ⟨?_, ?_⟩) ⟨rfl, trivial, trivial⟩) ?_
      refine aw_ret ?_
      have hr := Option.some.inj h
      subst hr
      exact ret_objs (.inr rfl) [] (objs' := []) (new := []) rfl (by simp) (by simp) rfl (by repeat' first | exact trivial | refine ⟨?_, ?_⟩) rfl rfl (by repeat' first | exact trivial | refine ⟨?_, ?_⟩) (fun _ => ⟨by simp [V.flat, V.flatA, V.flatC, D.flat], flat_nil⟩) ⟨rfl, rfl, rfl⟩
    · have h := if_f h hc7
      refine aw_skip ?_
      refine aw_seq ?_
      refine aw_region ?_
      refine awl_val hτ rfl rfl rfl ?_
      refine awl_val hτ rfl rfl rfl ?_
      refine awl_val hτ rfl rfl rfl ?_
      refine bnd_elim h fun x8 hx8 h => ?_
      refine awl_callP hτ false [] rfl rfl rfl (enterOk func119 rfl rfl) rfl rfl (by simp) ⟨trivial, trivial, trivial⟩ (by repeat' first | exact trivial | refine ⟨?_, ?_⟩) (laws_heldOutageS_ok n a_.List x6 hx8) ?_
      rintro r0 o0 n0 ⟨rfl, rfl, rfl⟩ -
      refine awl_val hτ rfl rfl rfl ?_
      refine awl_nil ?_
      refine aw_seq ?_
      refine aw_seq ?_
      refine aw_weak (weak_ofP [] (l := [(1, .d (.int .i64 x8))]) (objs := []) rfl (by simp) rfl (by repeat' first | exact trivial | refine ⟨?_, ?_⟩) ⟨rfl, trivial, trivial⟩) ?_
      refine aw_region ?_
      refine awl_val hτ rfl rfl rfl ?_
      refine awl_val hτ rfl rfl rfl ?_
      refine awl_nil ?_
      refine aw_cond rfl (fun hc9 => ?_) (fun hc9 => ?_)
      · have h := if_t h hc9
        refine aw_seq ?_
        refine aw_region ?_
        refine awl_val hτ rfl rfl rfl ?_
        refine awl_nil ?_
        refine aw_weak (weak_ofP [] (l := [(4, .d (.int .i64 (-1 : Int)))]) (objs := []) rfl (by simp) rfl (by repeat' first | exact trivial | refine ⟨?_, ?_⟩) ⟨rfl, trivial, trivial⟩) ?_
        refine aw_ret ?_
        have hr := Option.some.inj h
        subst hr
        exact ret_objs (.inr rfl) [] (objs' := []) (new := []) rfl (by simp) (by simp) rfl (by repeat' first | exact trivial | refine ⟨?_, ?_⟩) rfl rfl (by repeat' first | exact trivial | refine ⟨?_, ?_⟩) (fun _ => ⟨by simp [V.flat, V.flatA, V.flatC, D.flat], flat_nil⟩) ⟨rfl, rfl, rfl⟩
      · have h := if_f h hc9
        refine aw_skip ?_
        refine aw_seq ?_
        refine aw_region ?_
        refine awl_val hτ rfl rfl rfl ?_
        refine awl_val hτ rfl rfl rfl ?_
        refine awl_nil ?_
        refine aw_weak (weak_ofP [] (l := [(4, .d (.int .i64 x8))]) (objs := []) rfl (by simp) rfl (by repeat' first | exact trivial | refine ⟨?_, ?_⟩) ⟨rfl, trivial, trivial⟩) ?_
        refine aw_ret ?_
        have hr := Option.some.inj h
        subst hr
        exact ret_objs (.inr rfl) [] (objs' := []) (new := []) rfl (by simp) (by simp) rfl (by repeat' first | exact trivial | refine ⟨?_, ?_⟩) rfl rfl (by repeat' first | exact trivial | refine ⟨?_, ?_⟩) (fun _ => ⟨by simp [V.flat, V.flatA, V.flatC, D.flat], flat_nil⟩) ⟨rfl, rfl, rfl⟩
theorem laws_heldDesk_ok (n : Nat) (a_ : SDesk) (k_ : Int) {r : Int} (h : m_laws_heldDesk n a_ k_ = some r) : ACall prog false 50 [.agg [.d (.cx .f32 a_.Feeder.Source.A.re a_.Feeder.Source.A.im), .d (.cx .f32 a_.Feeder.Source.B.re a_.Feeder.Source.B.im), .d (.cx .f32 a_.Feeder.Source.C.re a_.Feeder.Source.C.im), .d (.sl false (a_.Feeder.Buses.map eSBus)), .d (.sl false (a_.Taps.map eSTap)), .d (.sl false (a_.List.map eSOutage))], .d (.int .i64 k_)] [] (fun v o new => v = .d (.int .i64 r) ∧ o = [] ∧ new = []) := laws_heldDesk_ok_fr0 false n a_ k_ h
theorem laws_heldDesk_ok_fr (n : Nat) (a_ : SDesk) (k_ : Int) {r : Int} (h : m_laws_heldDesk n a_ k_ = some r) : ACall prog true 50 [.agg [.d (.cx .f32 a_.Feeder.Source.A.re a_.Feeder.Source.A.im), .d (.cx .f32 a_.Feeder.Source.B.re a_.Feeder.Source.B.im), .d (.cx .f32 a_.Feeder.Source.C.re a_.Feeder.Source.C.im), .d (.sl false (a_.Feeder.Buses.map eSBus)), .d (.sl false (a_.Taps.map eSTap)), .d (.sl false (a_.List.map eSOutage))], .d (.int .i64 k_)] [] (fun v o new => v = .d (.int .i64 r) ∧ o = [] ∧ new = []) := laws_heldDesk_ok_fr0 true n a_ k_ h

def m_laws_FnExactNewDesk (n : Nat) : Option Bool :=
  (m_spec_NewDesk n).bind fun x12 =>
  (m_impl_NewDesk n).bind fun x13 =>
  (m_laws_eqDesk n (SDesk.mk (SFeeder.mk x13.Feeder.Source x13.Feeder.Buses) x13.Taps x13.List) (SDesk.mk (SFeeder.mk x12.Feeder.Source x12.Feeder.Buses) x12.Taps x12.List)).bind fun x15 =>
  if x15 = true then
    (m_laws_markDesk n (SDesk.mk (SFeeder.mk x13.Feeder.Source x13.Feeder.Buses) x13.Taps x13.List) (1 : Int)).bind fun x17 =>
    grd (x17.2.1.length = x13.Feeder.Buses.length) <|
    grd (x17.2.2.1.length = x13.Taps.length) <|
    grd (x17.2.2.2.length = x13.List.length) <|
    (m_laws_heldDesk n (SDesk.mk (SFeeder.mk x13.Feeder.Source x17.2.1) x17.2.2.1 x17.2.2.2) (1 : Int)).bind fun x21 =>
    if x21 < (0 : Int) then
      some false
    else
      if x21 = x17.1 then
        (m_impl_NewDesk n).bind fun x24 =>
        (m_laws_eqDesk n (SDesk.mk (SFeeder.mk x24.Feeder.Source x24.Feeder.Buses) x24.Taps x24.List) (SDesk.mk (SFeeder.mk x12.Feeder.Source x12.Feeder.Buses) x12.Taps x12.List)).bind fun x26 =>
        if x26 = true then
          (m_laws_heldDesk n (SDesk.mk (SFeeder.mk x13.Feeder.Source x17.2.1) x17.2.2.1 x17.2.2.2) (1 : Int)).bind fun x28 =>
          if x28 < (0 : Int) then
            some false
          else
            if x28 = x17.1 then
              some true
            else
              some false
        else
          some false
      else
        some false
  else
    some false
theorem laws_FnExactNewDesk_ok_fr0 (fr : Bool) (n : Nat) {r : Bool} (h : m_laws_FnExactNewDesk n = some r) : ACall prog fr 7 [] [] (fun v o new => v = .d (.bool r) ∧ o = [] ∧ new = []) := by
  refine acall_of_aw hτ func7 rfl (by simp) (by simp) ?_
  unfold m_laws_FnExactNewDesk at h
  refine aw_seq ?_
  refine aw_region ?_
  refine awl_val hτ rfl rfl rfl ?_
  refine awl_nil ?_
  refine aw_seq ?_
  refine aw_region ?_
  refine bnd_elim h fun x12 hx12 h => ?_
  refine awl_callP hτ false [] rfl rfl rfl (enterOk func46 rfl rfl) rfl rfl (by simp) trivial (by repeat' first | exact trivial | refine ⟨?_, ?_⟩) (spec_NewDesk_ok n hx12) ?_
  rintro r0 o0 n0 ⟨rfl, rfl, rfl⟩ -
  refine awl_valH hτ rfl rfl rfl ?_
  refine awl_valH hτ rfl rfl rfl ?_
  refine awl_nil ?_
  refine aw_seq ?_
  refine aw_region ?_
  refine bnd_elim h fun x13 hx13 h => ?_
  refine awl_callP hτ false [] rfl rfl rfl (enterOk func47 rfl rfl) rfl rfl (by simp) trivial (by repeat' first | exact trivial | refine ⟨?_, ?_⟩) (impl_NewDesk_ok n hx13) ?_
  rintro r0 o0 n0 ⟨rfl, rfl, rfl⟩ -
  refine awl_valH hτ rfl rfl rfl ?_
  refine awl_valH hτ rfl rfl rfl ?_
  refine awl_nil ?_
  refine aw_seq ?_
  refine aw_seq ?_
  refine aw_weak (weak_ofP [3, 0, 1, 2, 7, 4, 5, 6] (l := [(1, .ptr 0 0), (2, .ptr 4 0)]) (objs := [.box [.d (.cx .f32 x12.Feeder.Source.A.re x12.Feeder.Source.A.im), .d (.cx .f32 x12.Feeder.Source.B.re x12.Feeder.Source.B.im), .d (.cx .f32 x12.Feeder.Source.C.re x12.Feeder.Source.C.im), .row 1 x12.Feeder.Buses.length 0 x12.Feeder.Buses.length, .row 2 x12.Taps.length 0 x12.Taps.length, .row 3 x12.List.length 0 x12.List.length], .row 8 (x12.Feeder.Buses.map eSBus), .row 5 (x12.Taps.map eSTap), .row 3 (x12.List.map eSOutage), .box [.d (.cx .f32 x13.Feeder.Source.A.re x13.Feeder.Source.A.im), .d (.cx .f32 x13.Feeder.Source.B.re x13.Feeder.Source.B.im), .d (.cx .f32 x13.Feeder.Source.C.re x13.Feeder.Source.C.im), .row 5 x13.Feeder.Buses.length 0 x13.Feeder.Buses.length, .row 6 x13.Taps.length 0 x13.Taps.length, .row 7 x13.List.length 0 x13.List.length], .row 8 (x13.Feeder.Buses.map eSBus), .row 5 (x13.Taps.map eSTap), .row 3 (x13.List.map eSOutage)]) rfl (by simp) rfl (by repeat' first | exact trivial | refine ⟨?_, ?_⟩) ⟨rfl, trivial, rfl, trivial, trivial⟩) ?_
  refine aw_region ?_
  refine awl_val hτ rfl rfl rfl ?_
  refine awl_val hτ rfl rfl rfl ?_
  refine awl_weak (weak_ofP [0, 1, 2, 3, 4, 5, 6, 7] (l := [(1, .ptr 0 0), (2, .ptr 4 0), (8, .agg [.d (.cx .f32 x13.Feeder.Source.A.re x13.Feeder.Source.A.im), .d (.cx .f32 x13.Feeder.Source.B.re x13.Feeder.Source.B.im), .d (.cx .f32 x13.Feeder.Source.C.re x13.Feeder.Source.C.im), .row 5 x13.Feeder.Buses.length 0 x13.Feeder.Buses.length, .row 6 x13.Taps.length 0 x13.Taps.length, .row 7 x13.List.length 0 x13.List.length]), (9, .agg [.d (.cx .f32 x12.Feeder.Source.A.re x12.Feeder.Source.A.im), .d (.cx .f32 x12.Feeder.Source.B.re x12.Feeder.Source.B.im), .d (.cx .f32 x12.Feeder.Source.C.re x12.Feeder.Source.C.im), .row 1 x12.Feeder.Buses.length 0 x12.Feeder.Buses.length, .row 2 x12.Taps.length 0 x12.Taps.length, .row 3 x12.List.length 0 x12.List.length])]) (objs := [.box [.d (.cx .f32 x12.Feeder.Source.A.re x12.Feeder.Source.A.im), .d (.cx .f32 x12.Feeder.Source.B.re x12.Feeder.Source.B.im), .d (.cx .f32 x12.Feeder.Source.C.re x12.Feeder.Source.C.im), .row 1 x12.Feeder.Buses.length 0 x12.Feeder.Buses.length, .row 2 x12.Taps.length 0 x12.Taps.length, .row 3 x12.List.length 0 x12.List.length], .row 8 (x12.Feeder.Buses.map eSBus), .row 5 (x12.Taps.map eSTap), .row 3 (x12.List.map eSOutage), .box [.d (.cx .f32 x13.Feeder.Source.A.re x13.Feeder.Source.A.im), .d (.cx .f32 x13.Feeder.Source.B.re x13.Feeder.Source.B.im), .d (.cx .f32 x13.Feeder.Source.C.re x13.Feeder.Source.C.im), .row 5 x13.Feeder.Buses.length 0 x13.Feeder.Buses.length, .row 6 x13.Taps.length 0 x13.Taps.length, .row 7 x13.List.length 0 x13.List.length], .row 8 (x13.Feeder.Buses.map eSBus), .row 5 (x13.Taps.map eSTap), .row 3 (x13.List.map eSOutage)]) rfl (by simp) rfl (by repeat' first | exact trivial | refine ⟨?_, ?_⟩) ⟨rfl, trivial, rfl, trivial, rfl, (by repeat' first | exact trivial | refine ⟨?_, ?_⟩), rfl, (by repeat' first | exact trivial | refine ⟨?_, ?_⟩), trivial⟩) ?_
  refine bnd_elim h fun x15 hx15 h => ?_
  refine awl_callP hτ true [] rfl rfl rfl (enterOk func48 rfl rfl) (mapO_cons (exV_agg (mapO_cons rfl (mapO_cons rfl (mapO_cons rfl (mapO_cons (exC_view x13.Feeder.Buses rfl rfl rfl) (mapO_cons (exC_view x13.Taps rfl rfl rfl) (mapO_cons (exC_view x13.List rfl rfl rfl) mapO_nil))))))) (mapO_cons (exV_agg (mapO_cons rfl (mapO_cons rfl (mapO_cons rfl (mapO_cons (exC_view x12.Feeder.Buses rfl rfl rfl) (mapO_cons (exC_view x12.Taps rfl rfl rfl) (mapO_cons (exC_view x12.List rfl rfl rfl) mapO_nil))))))) mapO_nil)) rfl (by simp) ⟨⟨trivial, trivial, trivial, (exP_view x13.Feeder.Buses rfl rfl rfl), (exP_view x13.Taps rfl rfl rfl), (exP_view x13.List rfl rfl rfl)⟩, ⟨trivial, trivial, trivial, (exP_view x12.Feeder.Buses rfl rfl rfl), (exP_view x12.Taps rfl rfl rfl), (exP_view x12.List rfl rfl rfl)⟩, trivial⟩ (by repeat' first | exact trivial | refine ⟨?_, ?_⟩) (laws_eqDesk_ok_fr n (SDesk.mk (SFeeder.mk x13.Feeder.Source x13.Feeder.Buses) x13.Taps x13.List) (SDesk.mk (SFeeder.mk x12.Feeder.Source x12.Feeder.Buses) x12.Taps x12.List) hx15) ?_
  rintro r0 o0 n0 ⟨rfl, rfl, rfl⟩ -
  refine awl_val hτ rfl rfl rfl ?_
  refine awl_nil ?_
  refine aw_cond rfl (fun hc16 => ?_) (fun hc16 => ?_)
  · have hc16 := not_t hc16
    have h := if_bf h hc16
    refine aw_seq ?_
    refine aw_region ?_
    refine awl_val hτ rfl rfl rfl ?_
    refine awl_nil ?_
    refine aw_weak (weak_ofP [] (l := [(0, .d (.bool false))]) (objs := []) rfl (by simp) rfl (by repeat' first | exact trivial | refine ⟨?_, ?_⟩) ⟨rfl, trivial, trivial⟩) ?_
    refine aw_ret ?_
    have hr := Option.some.inj h
    subst hr
    exact ret_objs (.inr rfl) [] (objs' := []) (new := []) rfl (by simp) (by simp) rfl (by repeat' first | exact trivial | refine ⟨?_, ?_⟩) rfl rfl (by repeat' first | exact trivial | refine ⟨?_, ?_⟩) (fun _ => ⟨by simp [V.flat, V.flatA, V.flatC, D.flat], flat_nil⟩) ⟨rfl, rfl, rfl⟩
  · have hc16 := not_f hc16
    have h := if_bt h hc16
    refine aw_skip ?_
    refine aw_seq ?_
    refine aw_region ?_
    refine awl_val hτ rfl rfl rfl ?_
    refine awl_nil ?_
    refine aw_seq ?_
    refine aw_region ?_
    refine awl_val hτ rfl rfl rfl ?_
    refine awl_val hτ rfl rfl rfl ?_
    refine bnd_elim h fun x17 hx17 h => ?_
    refine awl_callP hτ false [5, 6, 7] rfl rfl rfl (enterOk func49 rfl rfl) rfl rfl (by simp) ⟨(by repeat' first | exact trivial | refine ⟨?_, ?_⟩), trivial, trivial⟩ (by repeat' first | exact trivial | refine ⟨?_, ?_⟩) (laws_markDesk_ok n (SDesk.mk (SFeeder.mk x13.Feeder.Source x13.Feeder.Buses) x13.Taps x13.List) (1 : Int) hx17) ?_
    rintro r0 o0 n0 ⟨rfl, rfl, rfl⟩ -
    refine grd_elim h fun hg18 h => ?_
    refine grd_elim h fun hg19 h => ?_
    refine grd_elim h fun hg20 h => ?_
    refine awl_val hτ rfl rfl rfl ?_
    refine awl_nil ?_
    refine aw_seq ?_
    refine aw_weak (weak_ofP [0, 1, 2, 3, 4, 5, 6, 7] (l := [(1, .ptr 0 0), (2, .ptr 4 0), (3, .d (.int .i64 x17.1))]) (objs := [.box [.d (.cx .f32 x12.Feeder.Source.A.re x12.Feeder.Source.A.im), .d (.cx .f32 x12.Feeder.Source.B.re x12.Feeder.Source.B.im), .d (.cx .f32 x12.Feeder.Source.C.re x12.Feeder.Source.C.im), .row 1 x12.Feeder.Buses.length 0 x12.Feeder.Buses.length, .row 2 x12.Taps.length 0 x12.Taps.length, .row 3 x12.List.length 0 x12.List.length], .row 8 (x12.Feeder.Buses.map eSBus), .row 5 (x12.Taps.map eSTap), .row 3 (x12.List.map eSOutage), .box [.d (.cx .f32 x13.Feeder.Source.A.re x13.Feeder.Source.A.im), .d (.cx .f32 x13.Feeder.Source.B.re x13.Feeder.Source.B.im), .d (.cx .f32 x13.Feeder.Source.C.re x13.Feeder.Source.C.im), .row 5 x17.2.1.length 0 x17.2.1.length, .row 6 x17.2.2.1.length 0 x17.2.2.1.length, .row 7 x17.2.2.2.length 0 x17.2.2.2.length], .row 8 (x17.2.1.map eSBus), .row 5 (x17.2.2.1.map eSTap), .row 3 (x17.2.2.2.map eSOutage)]) rfl (by simp) (mapO_cons rfl (mapO_cons rfl (mapO_cons rfl (mapO_cons rfl (mapO_cons (exO_box (mapO_cons rfl (mapO_cons rfl (mapO_cons rfl (mapO_cons (exC_rowL rfl (by simp [hg18, hg19, hg20])) (mapO_cons (exC_rowL rfl (by simp [hg18, hg19, hg20])) (mapO_cons (exC_rowL rfl (by simp [hg18, hg19, hg20])) mapO_nil))))))) (mapO_cons rfl (mapO_cons rfl (mapO_cons rfl mapO_nil)))))))) ⟨(by repeat' first | exact trivial | refine ⟨?_, ?_⟩), trivial, trivial, trivial, ⟨trivial, trivial, trivial, trivial, trivial, trivial⟩, trivial, trivial, trivial, trivial⟩ ⟨rfl, trivial, rfl, trivial, rfl, trivial, trivial⟩) ?_
    refine aw_region ?_
    refine awl_val hτ rfl rfl rfl ?_
    refine awl_nil ?_
    refine aw_seq ?_
    refine aw_region ?_
    refine awl_val hτ rfl rfl rfl ?_
    refine awl_val hτ rfl rfl rfl ?_
    refine awl_weak (weak_ofP [0, 1, 2, 3, 4, 5, 6, 7] (l := [(1, .ptr 0 0), (2, .ptr 4 0), (3, .d (.int .i64 x17.1)), (4, .d (.int .i64 (1 : Int))), (15, .agg [.d (.cx .f32 x13.Feeder.Source.A.re x13.Feeder.Source.A.im), .d (.cx .f32 x13.Feeder.Source.B.re x13.Feeder.Source.B.im), .d (.cx .f32 x13.Feeder.Source.C.re x13.Feeder.Source.C.im), .row 5 x17.2.1.length 0 x17.2.1.length, .row 6 x17.2.2.1.length 0 x17.2.2.1.length, .row 7 x17.2.2.2.length 0 x17.2.2.2.length]), (16, .d (.int .i64 (1 : Int)))]) (objs := [.box [.d (.cx .f32 x12.Feeder.Source.A.re x12.Feeder.Source.A.im), .d (.cx .f32 x12.Feeder.Source.B.re x12.Feeder.Source.B.im), .d (.cx .f32 x12.Feeder.Source.C.re x12.Feeder.Source.C.im), .row 1 x12.Feeder.Buses.length 0 x12.Feeder.Buses.length, .row 2 x12.Taps.length 0 x12.Taps.length, .row 3 x12.List.length 0 x12.List.length], .row 8 (x12.Feeder.Buses.map eSBus), .row 5 (x12.Taps.map eSTap), .row 3 (x12.List.map eSOutage), .box [.d (.cx .f32 x13.Feeder.Source.A.re x13.Feeder.Source.A.im), .d (.cx .f32 x13.Feeder.Source.B.re x13.Feeder.Source.B.im), .d (.cx .f32 x13.Feeder.Source.C.re x13.Feeder.Source.C.im), .row 5 x17.2.1.length 0 x17.2.1.length, .row 6 x17.2.2.1.length 0 x17.2.2.1.length, .row 7 x17.2.2.2.length 0 x17.2.2.2.length], .row 8 (x17.2.1.map eSBus), .row 5 (x17.2.2.1.map eSTap), .row 3 (x17.2.2.2.map eSOutage)]) rfl (by simp) rfl (by repeat' first | exact trivial | refine ⟨?_, ?_⟩) ⟨rfl, trivial, rfl, trivial, rfl, trivial, rfl, trivial, rfl, (by repeat' first | exact trivial | refine ⟨?_, ?_⟩), rfl, trivial, trivial⟩) ?_
    refine bnd_elim h fun x21 hx21 h => ?_
    refine awl_callP hτ true [] rfl rfl rfl (enterOk func50 rfl rfl) (mapO_cons (exV_agg (mapO_cons rfl (mapO_cons rfl (mapO_cons rfl (mapO_cons (exC_view x17.2.1 rfl rfl rfl) (mapO_cons (exC_view x17.2.2.1 rfl rfl rfl) (mapO_cons (exC_view x17.2.2.2 rfl rfl rfl) mapO_nil))))))) (mapO_cons rfl mapO_nil)) rfl (by simp) ⟨⟨trivial, trivial, trivial, (exP_view x17.2.1 rfl rfl rfl), (exP_view x17.2.2.1 rfl rfl rfl), (exP_view x17.2.2.2 rfl rfl rfl)⟩, trivial, trivial⟩ (by repeat' first | exact trivial | refine ⟨?_, ?_⟩) (laws_heldDesk_ok_fr n (SDesk.mk (SFeeder.mk x13.Feeder.Source x17.2.1) x17.2.2.1 x17.2.2.2) (1 : Int) hx21) ?_
    rintro r0 o0 n0 ⟨rfl, rfl, rfl⟩ -
    refine awl_val hτ rfl rfl rfl ?_
    refine awl_nil ?_
    refine aw_seq ?_
    refine aw_seq ?_
    refine aw_region ?_
    refine awl_val hτ rfl rfl rfl ?_
    refine awl_val hτ rfl rfl rfl ?_
    refine awl_nil ?_
    refine aw_cond rfl (fun hc22 => ?_) (fun hc22 => ?_)
    · have h := if_t h hc22
      refine aw_seq ?_
      refine aw_region ?_
      refine awl_val hτ rfl rfl rfl ?_
      refine awl_nil ?_
      refine aw_weak (weak_ofP [] (l := [(0, .d (.bool false))]) (objs := []) rfl (by simp) rfl (by repeat' first | exact trivial | refine ⟨?_, ?_⟩) ⟨rfl, trivial, trivial⟩) ?_
      refine aw_ret ?_
      have hr := Option.some.inj h
      subst hr
      exact ret_objs (.inr rfl) [] (objs' := []) (new := []) rfl (by simp) (by simp) rfl (by repeat' first | exact trivial | refine ⟨?_, ?_⟩) rfl rfl (by repeat' first | exact trivial | refine ⟨?_, ?_⟩) (fun _ => ⟨by simp [V.flat, V.flatA, V.flatC, D.flat], flat_nil⟩) ⟨rfl, rfl, rfl⟩
    · have h := if_f h hc22
      refine aw_skip ?_
      refine aw_seq ?_
      refine aw_seq ?_
      refine aw_region ?_
      refine awl_val hτ rfl rfl rfl ?_
      refine awl_val hτ rfl rfl rfl ?_
      refine awl_val hτ (v := .d (.bool (!(decide (x21 = x17.1))))) rfl rfl (or_ine _ _) ?_
      refine awl_nil ?_
      refine aw_weak (weak_ofP [0, 1, 2, 3, 4, 5, 6, 7] (l := [(1, .ptr 0 0), (2, .ptr 4 0), (3, .d (.int .i64 x17.1)), (22, .d (.bool (!(decide (x21 = x17.1)))))]) (objs := [.box [.d (.cx .f32 x12.Feeder.Source.A.re x12.Feeder.Source.A.im), .d (.cx .f32 x12.Feeder.Source.B.re x12.Feeder.Source.B.im), .d (.cx .f32 x12.Feeder.Source.C.re x12.Feeder.Source.C.im), .row 1 x12.Feeder.Buses.length 0 x12.Feeder.Buses.length, .row 2 x12.Taps.length 0 x12.Taps.length, .row 3 x12.List.length 0 x12.List.length], .row 8 (x12.Feeder.Buses.map eSBus), .row 5 (x12.Taps.map eSTap), .row 3 (x12.List.map eSOutage), .box [.d (.cx .f32 x13.Feeder.Source.A.re x13.Feeder.Source.A.im), .d (.cx .f32 x13.Feeder.Source.B.re x13.Feeder.Source.B.im), .d (.cx .f32 x13.Feeder.Source.C.re x13.Feeder.Source.C.im), .row 5 x17.2.1.length 0 x17.2.1.length, .row 6 x17.2.2.1.length 0 x17.2.2.1.length, .row 7 x17.2.2.2.length 0 x17.2.2.2.length], .row 8 (x17.2.1.map eSBus), .row 5 (x17.2.2.1.map eSTap), .row 3 (x17.2.2.2.map eSOutage)]) rfl (by simp) rfl (by repeat' first | exact trivial | refine ⟨?_, ?_⟩) ⟨rfl, trivial, rfl, trivial, rfl, trivial, rfl, trivial, trivial⟩) ?_
      refine aw_cond rfl (fun hc23 => ?_) (fun hc23 => ?_)
      · have hc23 := not_t hc23
        have h := if_f h hc23
        refine aw_seq ?_
        refine aw_region ?_
        refine awl_val hτ rfl rfl rfl ?_
        refine awl_nil ?_
        refine aw_weak (weak_ofP [] (l := [(0, .d (.bool false))]) (objs := []) rfl (by simp) rfl (by repeat' first | exact trivial | refine ⟨?_, ?_⟩) ⟨rfl, trivial, trivial⟩) ?_
        refine aw_ret ?_
        have hr := Option.some.inj h
        subst hr
        exact ret_objs (.inr rfl) [] (objs' := []) (new := []) rfl (by simp) (by simp) rfl (by repeat' first | exact trivial | refine ⟨?_, ?_⟩) rfl rfl (by repeat' first | exact trivial | refine ⟨?_, ?_⟩) (fun _ => ⟨by simp [V.flat, V.flatA, V.flatC, D.flat], flat_nil⟩) ⟨rfl, rfl, rfl⟩
      · have hc23 := not_f hc23
        have h := if_t h hc23
        refine aw_skip ?_
        refine aw_seq ?_
        refine aw_region ?_
        refine bnd_elim h fun x24 hx24 h => ?_
        refine awl_callP hτ false [] rfl rfl rfl (enterOk func47 rfl rfl) rfl rfl (by simp) trivial (by repeat' first | exact trivial | refine ⟨?_, ?_⟩) (impl_NewDesk_ok n hx24) ?_
        rintro r0 o0 n0 ⟨rfl, rfl, rfl⟩ -
        refine awl_valH hτ rfl rfl rfl ?_
        refine awl_valH hτ rfl rfl rfl ?_
        refine awl_nil ?_
        refine aw_seq ?_
        refine aw_seq ?_
        refine aw_region ?_
        refine awl_val hτ rfl rfl rfl ?_
        refine awl_val hτ rfl rfl rfl ?_
        refine awl_weak (weak_ofP [4, 5, 6, 7, 8, 9, 10, 1, 2, 3] (l := [(2, .ptr 0 0), (3, .d (.int .i64 x17.1)), (24, .agg [.d (.cx .f32 x24.Feeder.Source.A.re x24.Feeder.Source.A.im), .d (.cx .f32 x24.Feeder.Source.B.re x24.Feeder.Source.B.im), .d (.cx .f32 x24.Feeder.Source.C.re x24.Feeder.Source.C.im), .row 4 x24.Feeder.Buses.length 0 x24.Feeder.Buses.length, .row 5 x24.Taps.length 0 x24.Taps.length, .row 6 x24.List.length 0 x24.List.length]), (25, .agg [.d (.cx .f32 x12.Feeder.Source.A.re x12.Feeder.Source.A.im), .d (.cx .f32 x12.Feeder.Source.B.re x12.Feeder.Source.B.im), .d (.cx .f32 x12.Feeder.Source.C.re x12.Feeder.Source.C.im), .row 7 x12.Feeder.Buses.length 0 x12.Feeder.Buses.length, .row 8 x12.Taps.length 0 x12.Taps.length, .row 9 x12.List.length 0 x12.List.length])]) (objs := [.box [.d (.cx .f32 x13.Feeder.Source.A.re x13.Feeder.Source.A.im), .d (.cx .f32 x13.Feeder.Source.B.re x13.Feeder.Source.B.im), .d (.cx .f32 x13.Feeder.Source.C.re x13.Feeder.Source.C.im), .row 1 x17.2.1.length 0 x17.2.1.length, .row 2 x17.2.2.1.length 0 x17.2.2.1.length, .row 3 x17.2.2.2.length 0 x17.2.2.2.length], .row 8 (x17.2.1.map eSBus), .row 5 (x17.2.2.1.map eSTap), .row 3 (x17.2.2.2.map eSOutage), .row 8 (x24.Feeder.Buses.map eSBus), .row 5 (x24.Taps.map eSTap), .row 3 (x24.List.map eSOutage), .row 8 (x12.Feeder.Buses.map eSBus), .row 5 (x12.Taps.map eSTap), .row 3 (x12.List.map eSOutage)]) rfl (by simp) rfl (by repeat' first | exact trivial | refine ⟨?_, ?_⟩) ⟨rfl, trivial, rfl, trivial, rfl, (by repeat' first | exact trivial | refine ⟨?_, ?_⟩), rfl, (by repeat' first | exact trivial | refine ⟨?_, ?_⟩), trivial⟩) ?_
        refine bnd_elim h fun x26 hx26 h => ?_
        refine awl_callP hτ true [] rfl rfl rfl (enterOk func48 rfl rfl) (mapO_cons (exV_agg (mapO_cons rfl (mapO_cons rfl (mapO_cons rfl (mapO_cons (exC_view x24.Feeder.Buses rfl rfl rfl) (mapO_cons (exC_view x24.Taps rfl rfl rfl) (mapO_cons (exC_view x24.List rfl rfl rfl) mapO_nil))))))) (mapO_cons (exV_agg (mapO_cons rfl (mapO_cons rfl (mapO_cons rfl (mapO_cons (exC_view x12.Feeder.Buses rfl rfl rfl) (mapO_cons (exC_view x12.Taps rfl rfl rfl) (mapO_cons (exC_view x12.List rfl rfl rfl) mapO_nil))))))) mapO_nil)) rfl (by simp) ⟨⟨trivial, trivial, trivial, (exP_view x24.Feeder.Buses rfl rfl rfl), (exP_view x24.Taps rfl rfl rfl), (exP_view x24.List rfl rfl rfl)⟩, ⟨trivial, trivial, trivial, (exP_view x12.Feeder.Buses rfl rfl rfl), (exP_view x12.Taps rfl rfl rfl), (exP_view x12.List rfl rfl rfl)⟩, trivial⟩ (by repeat' first | exact trivial | refine ⟨?_, ?_⟩) (laws_eqDesk_ok_fr n (SDesk.mk (SFeeder.mk x24.Feeder.Source x24.Feeder.Buses) x24.Taps x24.List) (SDesk.mk (SFeeder.mk x12.Feeder.Source x12.Feeder.Buses) x12.Taps x12.List) hx26) ?_
        rintro r0 o0 n0 ⟨rfl, rfl, rfl⟩ -
        refine awl_val hτ rfl rfl rfl ?_
        refine awl_nil ?_
        refine aw_cond rfl (fun hc27 => ?_) (fun hc27 => ?_)
        · have hc27 := not_t hc27
          have h := if_bf h hc27
          refine aw_seq ?_
          refine aw_region ?_
          refine awl_val hτ rfl rfl rfl ?_
          refine awl_nil ?_
          refine aw_weak (weak_ofP [] (l := [(0, .d (.bool false))]) (objs := []) rfl (by simp) rfl (by repeat' first | exact trivial | refine ⟨?_, ?_⟩) ⟨rfl, trivial, trivial⟩) ?_
          refine aw_ret ?_
          have hr := Option.some.inj h
          subst hr
          exact ret_objs (.inr rfl) [] (objs' := []) (new := []) rfl (by simp) (by simp) rfl (by repeat' first | exact trivial | refine ⟨?_, ?_⟩) rfl rfl (by repeat' first | exact trivial | refine ⟨?_, ?_⟩) (fun _ => ⟨by simp [V.flat, V.flatA, V.flatC, D.flat], flat_nil⟩) ⟨rfl, rfl, rfl⟩
        · have hc27 := not_f hc27
          have h := if_bt h hc27
          refine aw_skip ?_
          refine aw_seq ?_
          refine aw_region ?_
          refine awl_val hτ rfl rfl rfl ?_
          refine awl_nil ?_
          refine aw_seq ?_
          refine aw_region ?_
          refine awl_val hτ rfl rfl rfl ?_
          refine awl_val hτ rfl rfl rfl ?_
          refine awl_weak (weak_ofP [1, 2, 3] (l := [(3, .d (.int .i64 x17.1)), (4, .d (.int .i64 (1 : Int))), (28, .agg [.d (.cx .f32 x13.Feeder.Source.A.re x13.Feeder.Source.A.im), .d (.cx .f32 x13.Feeder.Source.B.re x13.Feeder.Source.B.im), .d (.cx .f32 x13.Feeder.Source.C.re x13.Feeder.Source.C.im), .row 0 x17.2.1.length 0 x17.2.1.length, .row 1 x17.2.2.1.length 0 x17.2.2.1.length, .row 2 x17.2.2.2.length 0 x17.2.2.2.length]), (29, .d (.int .i64 (1 : Int)))]) (objs := [.row 8 (x17.2.1.map eSBus), .row 5 (x17.2.2.1.map eSTap), .row 3 (x17.2.2.2.map eSOutage)]) rfl (by simp) rfl (by repeat' first | exact trivial | refine ⟨?_, ?_⟩) ⟨rfl, trivial, rfl, trivial, rfl, (by repeat' first | exact trivial | refine ⟨?_, ?_⟩), rfl, trivial, trivial⟩) ?_
          refine bnd_elim h fun x28 hx28 h => ?_
          refine awl_callP hτ true [] rfl rfl rfl (enterOk func50 rfl rfl) (mapO_cons (exV_agg (mapO_cons rfl (mapO_cons rfl (mapO_cons rfl (mapO_cons (exC_view x17.2.1 rfl rfl rfl) (mapO_cons (exC_view x17.2.2.1 rfl rfl rfl) (mapO_cons (exC_view x17.2.2.2 rfl rfl rfl) mapO_nil))))))) (mapO_cons rfl mapO_nil)) rfl (by simp) ⟨⟨trivial, trivial, trivial, (exP_view x17.2.1 rfl rfl rfl), (exP_view x17.2.2.1 rfl rfl rfl), (exP_view x17.2.2.2 rfl rfl rfl)⟩, trivial, trivial⟩ (by repeat' first | exact trivial | refine ⟨?_, ?_⟩) (laws_heldDesk_ok_fr n (SDesk.mk (SFeeder.mk x13.Feeder.Source x17.2.1) x17.2.2.1 x17.2.2.2) (1 : Int) hx28) ?_
          rintro r0 o0 n0 ⟨rfl, rfl, rfl⟩ -
          refine awl_val hτ rfl rfl rfl ?_
          refine awl_nil ?_
          refine aw_seq ?_
          refine aw_seq ?_
          refine aw_region ?_
          refine awl_val hτ rfl rfl rfl ?_
          refine awl_val hτ rfl rfl rfl ?_
          refine awl_nil ?_
          refine aw_cond rfl (fun hc29 => ?_) (fun hc29 => ?_)
          · have h := if_t h hc29
            refine aw_seq ?_
            refine aw_region ?_
            refine awl_val hτ rfl rfl rfl ?_
            refine awl_nil ?_
            refine aw_weak (weak_ofP [] (l := [(0, .d (.bool false))]) (objs := []) rfl (by simp) rfl (by repeat' first | exact trivial | refine ⟨?_, ?_⟩) ⟨rfl, trivial, trivial⟩) ?_
            refine aw_ret ?_
            have hr := Option.some.inj h
            subst hr
            exact ret_objs (.inr rfl) [] (objs' := []) (new := []) rfl (by simp) (by simp) rfl (by repeat' first | exact trivial | refine ⟨?_, ?_⟩) rfl rfl (by repeat' first | exact trivial | refine ⟨?_, ?_⟩) (fun _ => ⟨by simp [V.flat, V.flatA, V.flatC, D.flat], flat_nil⟩) ⟨rfl, rfl, rfl⟩
          · have h := if_f h hc29
            refine aw_skip ?_
            refine aw_seq ?_
            refine aw_seq ?_
            refine aw_region ?_
            refine awl_val hτ rfl rfl rfl ?_
            refine awl_val hτ rfl rfl rfl ?_
            refine awl_val hτ (v := .d (.bool (!(decide (x28 = x17.1))))) rfl rfl (or_ine _ _) ?_
            refine awl_nil ?_
            refine aw_weak (weak_ofP [] (l := [(35, .d (.bool (!(decide (x28 = x17.1)))))]) (objs := []) rfl (by simp) rfl (by repeat' first | exact trivial | refine ⟨?_, ?_⟩) ⟨rfl, trivial, trivial⟩) ?_
            refine aw_cond rfl (fun hc30 => ?_) (fun hc30 => ?_)
            · have hc30 := not_t hc30
              have h := if_f h hc30
              refine aw_seq ?_
              refine aw_region ?_
              refine awl_val hτ rfl rfl rfl ?_
              refine awl_nil ?_
              refine aw_weak (weak_ofP [] (l := [(0, .d (.bool false))]) (objs := []) rfl (by simp) rfl (by repeat' first | exact trivial | refine ⟨?_, ?_⟩) ⟨rfl, trivial, trivial⟩) ?_
              refine aw_ret ?_
              have hr := Option.some.inj h
              subst hr
              exact ret_objs (.inr rfl) [] (objs' := []) (new := []) rfl (by simp) (by simp) rfl (by repeat' first | exact trivial | refine ⟨?_, ?_⟩) rfl rfl (by repeat' first | exact trivial | refine ⟨?_, ?_⟩) (fun _ => ⟨by simp [V.flat, V.flatA, V.flatC, D.flat], flat_nil⟩) ⟨rfl, rfl, rfl⟩
            · have hc30 := not_f hc30
              have h := if_t h hc30
              refine aw_skip ?_
              refine aw_seq ?_
              refine aw_region ?_
              refine awl_val hτ rfl rfl rfl ?_
              refine awl_nil ?_
              refine aw_weak (weak_ofP [] (l := [(0, .d (.bool true))]) (objs := []) rfl (by simp) rfl (by repeat' first | exact trivial | refine ⟨?_, ?_⟩) ⟨rfl, trivial, trivial⟩) ?_
              refine aw_ret ?_
              have hr := Option.some.inj h
              subst hr
              exact ret_objs (.inr rfl) [] (objs' := []) (new := []) rfl (by simp) (by simp) rfl (by repeat' first | exact trivial | refine ⟨?_, ?_⟩) rfl rfl (by repeat' first | exact trivial | refine ⟨?_, ?_⟩) (fun _ => ⟨by simp [V.flat, V.flatA, V.flatC, D.flat], flat_nil⟩) ⟨rfl, rfl, rfl⟩
theorem laws_FnExactNewDesk_ok (n : Nat) {r : Bool} (h : m_laws_FnExactNewDesk n = some r) : ACall prog false 7 [] [] (fun v o new => v = .d (.bool r) ∧ o = [] ∧ new = []) := laws_FnExactNewDesk_ok_fr0 false n h
theorem laws_FnExactNewDesk_ok_fr (n : Nat) {r : Bool} (h : m_laws_FnExactNewDesk n = some r) : ACall prog true 7 [] [] (fun v o new => v = .d (.bool r) ∧ o = [] ∧ new = []) := laws_FnExactNewDesk_ok_fr0 true n h

end Go.Proofs.Ytkagbffdmppbhaa.AWN
