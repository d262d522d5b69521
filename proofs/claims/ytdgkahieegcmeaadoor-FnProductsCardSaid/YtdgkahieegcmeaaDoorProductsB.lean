/- Models and contracts, printed by program. -/
import Derived.Test.YtdgkahieegcmeaaDoorProductsA
set_option linter.unusedVariables false
set_option linter.unusedSimpArgs false
set_option linter.unusedSectionVars false
set_option maxHeartbeats 2000000
namespace Go.Proofs.YtdgkahieegcmeaaDoor.AWN
open Go Go.Proofs.Tryd

def m_impl_ReadComplex_j2 (n : Nat) (k52 : List Cx → Int → Option (List Cx × Bool)) (v38 : Int) (v64 : List Cx) : Option (List Cx × Bool) :=
  k52 v64 (w64 (v38 + (1 : Int)))
def m_impl_ReadComplex_j4 (n : Nat) (k52 : List Cx → Int → Option (List Cx × Bool)) (v37 : List Cx) (v38 : Int) (x70 : Nat × Bool) (x72 : Nat × Bool) : Option (List Cx × Bool) :=
  grd (room (v37.length + 1) 8) <|
  m_impl_ReadComplex_j2 n k52 v38 (v37 ++ [(Cx.mk x70.1 x72.1)])
def m_impl_ReadComplex_j5 (n : Nat) (k52 : List Cx → Int → Option (List Cx × Bool)) (v37 : List Cx) (v38 : Int) (x70 : Nat × Bool) (x72 : Nat × Bool) (v79 : Bool) : Option (List Cx × Bool) :=
  if v79 = true then
    some (([] : List Cx), false)
  else
    m_impl_ReadComplex_j4 n k52 v37 v38 x70 x72
def m_impl_ReadComplex_j3 (n : Nat) (k52 : List Cx → Int → Option (List Cx × Bool)) (v37 : List Cx) (v38 : Int) (x66 : Str) : Option (List Cx × Bool) :=
  grd (0 ≤ (0 : Int) ∧ (0 : Int) ≤ (8 : Int) ∧ (8 : Int) ≤ (x66.length : Int)) <|
  (m_impl_readNumber n (sub x66 (0 : Int) (8 : Int))).bind fun x70 =>
  grd (0 ≤ (8 : Int) ∧ (8 : Int) ≤ (x66.length : Int) ∧ (x66.length : Int) ≤ (x66.length : Int)) <|
  (m_impl_readNumber n (sub x66 (8 : Int) (x66.length : Int))).bind fun x72 =>
  if x70.2 = true then
    m_impl_ReadComplex_j5 n k52 v37 v38 x70 x72 (!x72.2)
  else
    m_impl_ReadComplex_j5 n k52 v37 v38 x70 x72 true
def m_impl_ReadComplex_j6 (n : Nat) (k52 : List Cx → Int → Option (List Cx × Bool)) (v37 : List Cx) (v38 : Int) (x66 : Str) (v86 : Bool) : Option (List Cx × Bool) :=
  if v86 = true then
    some (([] : List Cx), false)
  else
    m_impl_ReadComplex_j3 n k52 v37 v38 x66
def m_impl_ReadComplex_l1 (n : Nat) (x26 : List Str) : Nat → List Cx → Int → Option (List Cx × Bool)
  | 0, _, _ => none
  | m51 + 1, v37, v38 =>
    if v38 < (x26.length : Int) then
      (getI x26 v38).bind fun x66 =>
      if (x66.length : Int) = (16 : Int) then
        m_impl_ReadComplex_j6 n (m_impl_ReadComplex_l1 n x26 m51) v37 v38 x66 (decide ((v37.length : Int) = (256 : Int)))
      else
        m_impl_ReadComplex_j6 n (m_impl_ReadComplex_l1 n x26 m51) v37 v38 x66 true
    else
      some (v37, true)
def m_impl_ReadComplex (n : Nat) (s_ : Str) : Option (List Cx × Bool) :=
  (m_impl_parted n s_).bind fun x26 =>
  m_impl_ReadComplex_l1 n x26 n ([] : List Cx) (0 : Int)
theorem impl_ReadComplex_ok_fr0 (fr : Bool) (n : Nat) (s_ : Str) {r : List Cx × Bool} (h : m_impl_ReadComplex n s_ = some r) : ACall prog fr 19 [.d (.str (bstr s_))] [] (fun v o new => v = .tup [.row 0 r.1.length 0 r.1.length, .d (.bool r.2)] ∧ o = [] ∧ new = [.row 1 (r.1.map eCxf32)]) := by
  refine acall_of_aw hτ func19 rfl (by simp) (by simp) ?_
  unfold m_impl_ReadComplex at h
  refine aw_seq ?_
  refine aw_region ?_
  refine awl_val hτ rfl rfl rfl ?_
  refine awl_val hτ rfl rfl rfl ?_
  refine awl_nil ?_
  refine aw_seq ?_
  refine aw_region ?_
  refine awl_valH hτ rfl rfl rfl ?_
  refine awl_val hτ rfl rfl rfl ?_
  refine awl_nil ?_
  refine aw_seq ?_
  refine aw_seq ?_
  refine aw_region ?_
  refine awl_val hτ rfl rfl rfl ?_
  refine bnd_elim h fun x26 hx26 h => ?_
  refine awl_callP hτ false [] rfl rfl rfl (enterOk func54 rfl rfl) rfl rfl (by simp) ⟨trivial, trivial⟩ (by repeat' first | exact trivial | refine ⟨?_, ?_⟩) (impl_parted_ok n s_ hx26) ?_
  rintro r0 o0 n0 ⟨rfl, rfl, rfl⟩ -
  refine awl_val hτ (v := .d (.int .i64 (x26.length : Int))) rfl rfl (Eq.trans rfl (or_len (f := eStr) x26)) ?_
  refine awl_val hτ rfl rfl rfl ?_
  refine awl_nil ?_
  refine aw_block ?_
  refine aw_loop (ι := Nat × List Cx × Int) (fun (m51, v37, v38) => St.of [(4, .row 0 v37.length 0 v37.length), (13, .d (.sl false (x26.map eStr))), (14, .d (.int .i64 (x26.length : Int))), (15, .d (.int .i64 v38))] [.row 1 (v37.map eCxf32)] f19.ntmps 0) (fun (m51, v37, v38) => m_impl_ReadComplex_l1 n x26 m51 v37 v38 = some r) (fun x => x.1) (n, ([] : List Cx), (0 : Int)) h (weak_ofP [0] (l := [(4, .row 0 (([] : List Cx).length) 0 (([] : List Cx).length)), (13, .d (.sl false (x26.map eStr))), (14, .d (.int .i64 (x26.length : Int))), (15, .d (.int .i64 (0 : Int)))]) (objs := [.row 1 (([] : List Cx).map eCxf32)]) rfl (by simp) rfl (by repeat' first | exact trivial | refine ⟨?_, ?_⟩) ⟨rfl, trivial, rfl, trivial, rfl, trivial, rfl, trivial, trivial⟩) ?_
  rintro ⟨m51, v37, v38⟩ h
  replace h : m_impl_ReadComplex_l1 n x26 m51 v37 v38 = some r := h
  rcases m51 with _ | m51
  · rw [m_impl_ReadComplex_l1] at h; cases h
  rw [m_impl_ReadComplex_l1] at h
  refine aw_seq ?_
  refine aw_region ?_
  refine awl_val hτ rfl rfl rfl ?_
  refine awl_nil ?_
  refine aw_seq ?_
  refine aw_cond rfl (fun hc53 => ?_) (fun hc53 => ?_)
  · have h := if_t h hc53
    refine aw_skip ?_
    refine aw_hk1 (ι := List Cx) (fun v64 => St.of [(4, .row 0 v64.length 0 v64.length), (13, .d (.sl false (x26.map eStr))), (14, .d (.int .i64 (x26.length : Int))), (15, .d (.int .i64 v38))] [.row 1 (v64.map eCxf32)] f19.ntmps 0) (fun v64 => m_impl_ReadComplex_j2 n (m_impl_ReadComplex_l1 n x26 m51) v38 v64 = some r) ?_ (fun hk65 => ?_)
    · rintro v64 h
      replace h : m_impl_ReadComplex_j2 n (m_impl_ReadComplex_l1 n x26 m51) v38 v64 = some r := h
      unfold m_impl_ReadComplex_j2 at h
      refine aw_region ?_
      refine awl_val hτ rfl rfl rfl ?_
      refine awl_val hτ rfl rfl rfl ?_
      refine awl_nil ?_
      exact ⟨(m51, v64, (w64 (v38 + (1 : Int)))), h, Nat.lt_succ_self m51, (weak_ofP [0] (l := [(4, .row 0 v64.length 0 v64.length), (13, .d (.sl false (x26.map eStr))), (14, .d (.int .i64 (x26.length : Int))), (15, .d (.int .i64 (w64 (v38 + (1 : Int)))))]) (objs := [.row 1 (v64.map eCxf32)]) rfl (by simp) rfl (by repeat' first | exact trivial | refine ⟨?_, ?_⟩) ⟨rfl, trivial, rfl, trivial, rfl, trivial, rfl, trivial, trivial⟩)⟩
    · refine aw_seq ?_
      refine aw_block ?_
      refine aw_seq ?_
      refine aw_region ?_
      refine bnd_elim h fun x66 hx66 h => ?_
      refine awl_elem hτ rfl rfl rfl (getI_some hx66).1 (map_getI hx66) rfl ?_
      refine awl_val hτ rfl rfl rfl ?_
      refine awl_val hτ rfl rfl rfl ?_
      refine awl_nil ?_
      refine aw_hk1 (ι := Unit) (fun _ => St.of [(4, .row 0 v37.length 0 v37.length), (6, .d (.str (bstr x66))), (13, .d (.sl false (x26.map eStr))), (14, .d (.int .i64 (x26.length : Int))), (15, .d (.int .i64 v38))] [.row 1 (v37.map eCxf32)] f19.ntmps 0) (fun _ => m_impl_ReadComplex_j3 n (m_impl_ReadComplex_l1 n x26 m51) v37 v38 x66 = some r) ?_ (fun hk83 => ?_)
      · rintro ⟨⟩ h
        replace h : m_impl_ReadComplex_j3 n (m_impl_ReadComplex_l1 n x26 m51) v37 v38 x66 = some r := h
        unfold m_impl_ReadComplex_j3 at h
        refine aw_seq ?_
        refine aw_region ?_
        refine awl_val hτ rfl rfl rfl ?_
        refine grd_elim h fun hg69 h => ?_
        refine awl_need hτ (v := .d (.str (bstr (sub x66 (0 : Int) (8 : Int))))) rfl rfl (Eq.trans rfl (or_ssub _ _ _)) hg69 ?_
        refine bnd_elim h fun x70 hx70 h => ?_
        refine awl_callP hτ false [] rfl rfl rfl (enterOk func55 rfl rfl) rfl rfl (by simp) ⟨trivial, trivial⟩ (by repeat' first | exact trivial | refine ⟨?_, ?_⟩) (impl_readNumber_ok n (sub x66 (0 : Int) (8 : Int)) hx70) ?_
        rintro r0 o0 n0 ⟨rfl, rfl, rfl⟩ -
        refine awl_val hτ rfl rfl rfl ?_
        refine awl_val hτ rfl rfl rfl ?_
        refine awl_val hτ rfl rfl rfl ?_
        refine awl_val hτ rfl rfl rfl ?_
        refine awl_val hτ rfl rfl rfl ?_
        refine awl_nil ?_
        refine aw_seq ?_
        refine aw_weak (weak_ofP [0] (l := [(4, .row 0 v37.length 0 v37.length), (6, .d (.str (bstr x66))), (7, .d (.fl .f32 x70.1)), (8, .d (.bool x70.2)), (13, .d (.sl false (x26.map eStr))), (14, .d (.int .i64 (x26.length : Int))), (15, .d (.int .i64 v38))]) (objs := [.row 1 (v37.map eCxf32)]) rfl (by simp) rfl (by repeat' first | exact trivial | refine ⟨?_, ?_⟩) ⟨rfl, trivial, rfl, trivial, rfl, trivial, rfl, trivial, rfl, trivial, rfl, trivial, rfl, trivial, trivial⟩) ?_
        refine aw_region ?_
        refine awl_val hτ rfl rfl rfl ?_
        refine grd_elim h fun hg71 h => ?_
        refine awl_need hτ (v := .d (.str (bstr (sub x66 (8 : Int) (x66.length : Int))))) rfl rfl (Eq.trans rfl (or_ssub _ _ _)) hg71 ?_
        refine bnd_elim h fun x72 hx72 h => ?_
        refine awl_callP hτ false [] rfl rfl rfl (enterOk func55 rfl rfl) rfl rfl (by simp) ⟨trivial, trivial⟩ (by repeat' first | exact trivial | refine ⟨?_, ?_⟩) (impl_readNumber_ok n (sub x66 (8 : Int) (x66.length : Int)) hx72) ?_
        rintro r0 o0 n0 ⟨rfl, rfl, rfl⟩ -
        refine awl_val hτ rfl rfl rfl ?_
        refine awl_val hτ rfl rfl rfl ?_
        refine awl_val hτ rfl rfl rfl ?_
        refine awl_val hτ rfl rfl rfl ?_
        refine awl_val hτ rfl rfl rfl ?_
        refine awl_nil ?_
        refine aw_hk1 (ι := Unit) (fun _ => St.of [(4, .row 0 v37.length 0 v37.length), (7, .d (.fl .f32 x70.1)), (9, .d (.fl .f32 x72.1)), (13, .d (.sl false (x26.map eStr))), (14, .d (.int .i64 (x26.length : Int))), (15, .d (.int .i64 v38))] [.row 1 (v37.map eCxf32)] f19.ntmps 0) (fun _ => m_impl_ReadComplex_j4 n (m_impl_ReadComplex_l1 n x26 m51) v37 v38 x70 x72 = some r) ?_ (fun hk76 => ?_)
        · rintro ⟨⟩ h
          replace h : m_impl_ReadComplex_j4 n (m_impl_ReadComplex_l1 n x26 m51) v37 v38 x70 x72 = some r := h
          unfold m_impl_ReadComplex_j4 at h
          refine aw_region ?_
          refine awl_val hτ rfl rfl rfl ?_
          refine awl_val hτ rfl rfl rfl ?_
          refine awl_val hτ rfl rfl rfl ?_
          refine awl_val hτ rfl rfl rfl ?_
          refine awl_valH hτ rfl rfl rfl ?_
          refine grd_elim h fun hg75 h => ?_
          refine awl_needH hτ rfl rfl (Eq.trans rfl (or_append (f := eCxf32) v37 [(Cx.mk x70.1 x72.1)] rfl)) ⟨⟨rfl, Nat.le_of_ble_eq_true rfl⟩, len_map _, rfl, rfl, hg75, by decide, (all1 rfl)⟩ ?_
          refine awl_val hτ rfl rfl rfl ?_
          refine awl_nil ?_
          refine aw_weak (weak_ofP [0] (l := [(4, .row 0 ((v37 ++ [(Cx.mk x70.1 x72.1)]).length) 0 ((v37 ++ [(Cx.mk x70.1 x72.1)]).length)), (13, .d (.sl false (x26.map eStr))), (14, .d (.int .i64 (x26.length : Int))), (15, .d (.int .i64 v38))]) (objs := [.row 1 ((v37 ++ [(Cx.mk x70.1 x72.1)]).map eCxf32)]) rfl (by simp) rfl (by repeat' first | exact trivial | refine ⟨?_, ?_⟩) ⟨rfl, trivial, rfl, trivial, rfl, trivial, rfl, trivial, trivial⟩) ?_
          exact hk65 (v37 ++ [(Cx.mk x70.1 x72.1)]) h
        · refine aw_seq ?_
          refine aw_hk1 (ι := Bool) (fun v79 => St.of [(4, .row 0 v37.length 0 v37.length), (7, .d (.fl .f32 x70.1)), (9, .d (.fl .f32 x72.1)), (13, .d (.sl false (x26.map eStr))), (14, .d (.int .i64 (x26.length : Int))), (15, .d (.int .i64 v38)), (44, .d (.bool v79))] [.row 1 (v37.map eCxf32)] f19.ntmps 0) (fun v79 => m_impl_ReadComplex_j5 n (m_impl_ReadComplex_l1 n x26 m51) v37 v38 x70 x72 v79 = some r) ?_ (fun hk81 => ?_)
          · rintro v79 h
            replace h : m_impl_ReadComplex_j5 n (m_impl_ReadComplex_l1 n x26 m51) v37 v38 x70 x72 v79 = some r := h
            unfold m_impl_ReadComplex_j5 at h
            refine aw_cond rfl (fun hc80 => ?_) (fun hc80 => ?_)
            · have h := if_bt h hc80
              refine aw_seq ?_
              refine aw_region ?_
              refine awl_val hτ rfl rfl rfl ?_
              refine awl_val hτ rfl rfl rfl ?_
              refine awl_nil ?_
              refine aw_weak (weak_ofP [] (l := [(2, .d (.nils)), (3, .d (.bool false))]) (objs := []) rfl (by simp) rfl (by repeat' first | exact trivial | refine ⟨?_, ?_⟩) ⟨rfl, trivial, rfl, trivial, trivial⟩) ?_
              refine aw_weak (weak_relax [1] (l' := [(2, .row 0 (([] : List Cx).length) 0 (([] : List Cx).length)), (3, .d (.bool false))]) (objs' := []) (.cons (.c (.ghost ⟨Nat.le_of_ble_eq_true rfl, Nat.le_of_ble_eq_true rfl⟩)) (.cons (.c (.refl _)) .nil)) .nil) ?_
              refine aw_ret ?_
              have hr := Option.some.inj h
              subst hr
              exact ret_objs (.inr rfl) [0] (objs' := []) (new := [.row 1 (([] : List Cx).map eCxf32)]) rfl (by simp) (by simp) rfl (by repeat' first | exact trivial | refine ⟨?_, ?_⟩) rfl rfl (by repeat' first | exact trivial | refine ⟨?_, ?_⟩) (fun _ => ⟨by simp [V.flat, V.flatA, V.flatC, D.flat], (flat_cons (flat_row eCxf32_flat _) flat_nil)⟩) ⟨rfl, rfl, rfl⟩
            · have h := if_bf h hc80
              refine aw_skip ?_
              refine aw_weak (weak_ofP [0] (l := [(4, .row 0 v37.length 0 v37.length), (7, .d (.fl .f32 x70.1)), (9, .d (.fl .f32 x72.1)), (13, .d (.sl false (x26.map eStr))), (14, .d (.int .i64 (x26.length : Int))), (15, .d (.int .i64 v38))]) (objs := [.row 1 (v37.map eCxf32)]) rfl (by simp) rfl (by repeat' first | exact trivial | refine ⟨?_, ?_⟩) ⟨rfl, trivial, rfl, trivial, rfl, trivial, rfl, trivial, rfl, trivial, rfl, trivial, trivial⟩) ?_
              exact hk76 () h
          · refine aw_seq ?_
            refine aw_weak (weak_ofP [0] (l := [(4, .row 0 v37.length 0 v37.length), (7, .d (.fl .f32 x70.1)), (8, .d (.bool x70.2)), (9, .d (.fl .f32 x72.1)), (10, .d (.bool x72.2)), (13, .d (.sl false (x26.map eStr))), (14, .d (.int .i64 (x26.length : Int))), (15, .d (.int .i64 v38))]) (objs := [.row 1 (v37.map eCxf32)]) rfl (by simp) rfl (by repeat' first | exact trivial | refine ⟨?_, ?_⟩) ⟨rfl, trivial, rfl, trivial, rfl, trivial, rfl, trivial, rfl, trivial, rfl, trivial, rfl, trivial, rfl, trivial, trivial⟩) ?_
            refine aw_region ?_
            refine awl_val hτ rfl rfl rfl ?_
            refine awl_val hτ rfl rfl rfl ?_
            refine awl_val hτ rfl rfl rfl ?_
            refine awl_split 41 rfl (fun hb82 => ?_) (fun hb82 => ?_)
            · have hb82 := not_t hb82
              have h := if_bf h hb82
              refine awl_skip rfl rfl ?_
              refine awl_skip rfl rfl ?_
              refine awl_val hτ rfl rfl rfl ?_
              refine awl_nil ?_
              refine aw_weak (weak_ofP [0] (l := [(4, .row 0 v37.length 0 v37.length), (7, .d (.fl .f32 x70.1)), (9, .d (.fl .f32 x72.1)), (13, .d (.sl false (x26.map eStr))), (14, .d (.int .i64 (x26.length : Int))), (15, .d (.int .i64 v38)), (44, .d (.bool true))]) (objs := [.row 1 (v37.map eCxf32)]) rfl (by simp) rfl (by repeat' first | exact trivial | refine ⟨?_, ?_⟩) ⟨rfl, trivial, rfl, trivial, rfl, trivial, rfl, trivial, rfl, trivial, rfl, trivial, rfl, trivial, trivial⟩) ?_
              exact hk81 true h
            · have hb82 := not_f hb82
              have h := if_bt h hb82
              refine awl_val hτ rfl rfl rfl ?_
              refine awl_val hτ rfl rfl rfl ?_
              refine awl_val hτ rfl rfl rfl ?_
              refine awl_nil ?_
              refine aw_weak (weak_ofP [0] (l := [(4, .row 0 v37.length 0 v37.length), (7, .d (.fl .f32 x70.1)), (9, .d (.fl .f32 x72.1)), (13, .d (.sl false (x26.map eStr))), (14, .d (.int .i64 (x26.length : Int))), (15, .d (.int .i64 v38)), (44, .d (.bool (!x72.2)))]) (objs := [.row 1 (v37.map eCxf32)]) rfl (by simp) rfl (by repeat' first | exact trivial | refine ⟨?_, ?_⟩) ⟨rfl, trivial, rfl, trivial, rfl, trivial, rfl, trivial, rfl, trivial, rfl, trivial, rfl, trivial, trivial⟩) ?_
              exact hk81 (!x72.2) h
      · refine aw_seq ?_
        refine aw_hk1 (ι := Bool) (fun v86 => St.of [(4, .row 0 v37.length 0 v37.length), (6, .d (.str (bstr x66))), (13, .d (.sl false (x26.map eStr))), (14, .d (.int .i64 (x26.length : Int))), (15, .d (.int .i64 v38)), (26, .d (.bool v86))] [.row 1 (v37.map eCxf32)] f19.ntmps 0) (fun v86 => m_impl_ReadComplex_j6 n (m_impl_ReadComplex_l1 n x26 m51) v37 v38 x66 v86 = some r) ?_ (fun hk88 => ?_)
        · rintro v86 h
          replace h : m_impl_ReadComplex_j6 n (m_impl_ReadComplex_l1 n x26 m51) v37 v38 x66 v86 = some r := h
          unfold m_impl_ReadComplex_j6 at h
          refine aw_cond rfl (fun hc87 => ?_) (fun hc87 => ?_)
          · have h := if_bt h hc87
            refine aw_seq ?_
            refine aw_region ?_
            refine awl_val hτ rfl rfl rfl ?_
            refine awl_val hτ rfl rfl rfl ?_
            refine awl_nil ?_
            refine aw_weak (weak_ofP [] (l := [(2, .d (.nils)), (3, .d (.bool false))]) (objs := []) rfl (by simp) rfl (by repeat' first | exact trivial | refine ⟨?_, ?_⟩) ⟨rfl, trivial, rfl, trivial, trivial⟩) ?_
            refine aw_weak (weak_relax [1] (l' := [(2, .row 0 (([] : List Cx).length) 0 (([] : List Cx).length)), (3, .d (.bool false))]) (objs' := []) (.cons (.c (.ghost ⟨Nat.le_of_ble_eq_true rfl, Nat.le_of_ble_eq_true rfl⟩)) (.cons (.c (.refl _)) .nil)) .nil) ?_
            refine aw_ret ?_
            have hr := Option.some.inj h
            subst hr
            exact ret_objs (.inr rfl) [0] (objs' := []) (new := [.row 1 (([] : List Cx).map eCxf32)]) rfl (by simp) (by simp) rfl (by repeat' first | exact trivial | refine ⟨?_, ?_⟩) rfl rfl (by repeat' first | exact trivial | refine ⟨?_, ?_⟩) (fun _ => ⟨by simp [V.flat, V.flatA, V.flatC, D.flat], (flat_cons (flat_row eCxf32_flat _) flat_nil)⟩) ⟨rfl, rfl, rfl⟩
          · have h := if_bf h hc87
            refine aw_skip ?_
            refine aw_weak (weak_ofP [0] (l := [(4, .row 0 v37.length 0 v37.length), (6, .d (.str (bstr x66))), (13, .d (.sl false (x26.map eStr))), (14, .d (.int .i64 (x26.length : Int))), (15, .d (.int .i64 v38))]) (objs := [.row 1 (v37.map eCxf32)]) rfl (by simp) rfl (by repeat' first | exact trivial | refine ⟨?_, ?_⟩) ⟨rfl, trivial, rfl, trivial, rfl, trivial, rfl, trivial, rfl, trivial, trivial⟩) ?_
            exact hk83 () h
        · refine aw_seq ?_
          refine aw_region ?_
          refine awl_val hτ rfl rfl rfl ?_
          refine awl_val hτ rfl rfl rfl ?_
          refine awl_val hτ (v := .d (.bool (!(decide ((x66.length : Int) = (16 : Int)))))) rfl rfl (or_ine _ _) ?_
          refine awl_val hτ rfl rfl rfl ?_
          refine awl_split 22 rfl (fun hb89 => ?_) (fun hb89 => ?_)
          · have hb89 := not_t hb89
            have h := if_f h hb89
            refine awl_skip rfl rfl ?_
            refine awl_skip rfl rfl ?_
            refine awl_skip rfl rfl ?_
            refine awl_val hτ rfl rfl rfl ?_
            refine awl_nil ?_
            refine aw_weak (weak_ofP [0] (l := [(4, .row 0 v37.length 0 v37.length), (6, .d (.str (bstr x66))), (13, .d (.sl false (x26.map eStr))), (14, .d (.int .i64 (x26.length : Int))), (15, .d (.int .i64 v38)), (26, .d (.bool true))]) (objs := [.row 1 (v37.map eCxf32)]) rfl (by simp) rfl (by repeat' first | exact trivial | refine ⟨?_, ?_⟩) ⟨rfl, trivial, rfl, trivial, rfl, trivial, rfl, trivial, rfl, trivial, rfl, trivial, trivial⟩) ?_
            exact hk88 true h
          · have hb89 := not_f hb89
            have h := if_t h hb89
            refine awl_val hτ rfl rfl rfl ?_
            refine awl_need hτ rfl rfl rfl (len_map _) ?_
            refine awl_val hτ (v := .d (.bool (decide ((v37.length : Int) = (256 : Int))))) rfl rfl (or_ieq _ _) ?_
            refine awl_val hτ rfl rfl rfl ?_
            refine awl_nil ?_
            refine aw_weak (weak_ofP [0] (l := [(4, .row 0 v37.length 0 v37.length), (6, .d (.str (bstr x66))), (13, .d (.sl false (x26.map eStr))), (14, .d (.int .i64 (x26.length : Int))), (15, .d (.int .i64 v38)), (26, .d (.bool (decide ((v37.length : Int) = (256 : Int)))))]) (objs := [.row 1 (v37.map eCxf32)]) rfl (by simp) rfl (by repeat' first | exact trivial | refine ⟨?_, ?_⟩) ⟨rfl, trivial, rfl, trivial, rfl, trivial, rfl, trivial, rfl, trivial, rfl, trivial, trivial⟩) ?_
            exact hk88 (decide ((v37.length : Int) = (256 : Int))) h
  · have h := if_f h hc53
    refine aw_exit ?_
    refine aw_seq ?_
    refine aw_region ?_
    refine awl_val hτ rfl rfl rfl ?_
    refine awl_val hτ rfl rfl rfl ?_
    refine awl_val hτ rfl rfl rfl ?_
    refine awl_nil ?_
    refine aw_weak (weak_ofP [0] (l := [(2, .row 0 v37.length 0 v37.length), (3, .d (.bool true))]) (objs := [.row 1 (v37.map eCxf32)]) rfl (by simp) rfl (by repeat' first | exact trivial | refine ⟨?_, ?_⟩) ⟨rfl, trivial, rfl, trivial, trivial⟩) ?_
    refine aw_ret ?_
    have hr := Option.some.inj h
    subst hr
    exact ret_objs (.inr rfl) [0] (objs' := []) (new := [.row 1 (v37.map eCxf32)]) rfl (by simp) (by simp) rfl (by repeat' first | exact trivial | refine ⟨?_, ?_⟩) rfl rfl (by repeat' first | exact trivial | refine ⟨?_, ?_⟩) (fun _ => ⟨by simp [V.flat, V.flatA, V.flatC, D.flat], (flat_cons (flat_row eCxf32_flat _) flat_nil)⟩) ⟨rfl, rfl, rfl⟩
theorem impl_ReadComplex_ok (n : Nat) (s_ : Str) {r : List Cx × Bool} (h : m_impl_ReadComplex n s_ = some r) : ACall prog false 19 [.d (.str (bstr s_))] [] (fun v o new => v = .tup [.row 0 r.1.length 0 r.1.length, .d (.bool r.2)] ∧ o = [] ∧ new = [.row 1 (r.1.map eCxf32)]) := impl_ReadComplex_ok_fr0 false n s_ h
theorem impl_ReadComplex_ok_fr (n : Nat) (s_ : Str) {r : List Cx × Bool} (h : m_impl_ReadComplex n s_ = some r) : ACall prog true 19 [.d (.str (bstr s_))] [] (fun v o new => v = .tup [.row 0 r.1.length 0 r.1.length, .d (.bool r.2)] ∧ o = [] ∧ new = [.row 1 (r.1.map eCxf32)]) := impl_ReadComplex_ok_fr0 true n s_ h

def m_spec_B10Number (n : Nat) (code_ : List Int) : Option Nat :=
  (m_spec_l00From n code_).bind fun x7 =>
  (m_spec_l00Src_one n x7 (2 : Int)).bind fun x12 =>
  if x12.1 = true then
    (m_spec_l00Src_pick n x12.2 (65536 : Int)).bind fun x14 =>
    (m_spec_l00Src_pick n x14.2 (65536 : Int)).bind fun x15 =>
    (m_spec_l01From n (w64 ((w64 (x14.1 * (65536 : Int))) + x15.1))).bind fun x16 =>
    some x16
  else
    (m_spec_l01DrawFloat n x12.2).bind fun x17 =>
    some x17.1
theorem spec_B10Number_ok_fr0 (fr : Bool) (n : Nat) (code_ : List Int) {r : Nat} (h : m_spec_B10Number n code_ = some r) : ACall prog fr 20 [.d (.sl false (code_.map eIntu8))] [] (fun v o new => v = .d (.fl .f32 r) ∧ o = [] ∧ new = []) := by
  refine acall_of_aw hτ func20 rfl (by simp) (by simp) ?_
  unfold m_spec_B10Number at h
  refine aw_seq ?_
  refine aw_region ?_
  refine awl_val hτ rfl rfl rfl ?_
  refine awl_nil ?_
  refine aw_seq ?_
  refine aw_region ?_
  refine awl_val hτ rfl rfl rfl ?_
  refine bnd_elim h fun x7 hx7 h => ?_
  refine awl_callP hτ false [] rfl rfl rfl (enterOk func43 rfl rfl) rfl rfl (by simp) ⟨trivial, trivial⟩ (by repeat' first | exact trivial | refine ⟨?_, ?_⟩) (spec_l00From_ok n code_ hx7) ?_
  rintro r0 o0 n0 ⟨rfl, rfl, rfl⟩ -
  refine awl_val hτ rfl rfl rfl ?_
  refine awl_nil ?_
  refine aw_seq ?_
  refine aw_seq ?_
  refine aw_region ?_
  refine awl_val hτ rfl rfl rfl ?_
  refine bnd_elim h fun x12 hx12 h => ?_
  refine awl_callP hτ false [0] rfl rfl rfl (enterOk func56 rfl rfl) rfl rfl (by simp) ⟨trivial, trivial, trivial⟩ (by repeat' first | exact trivial | refine ⟨?_, ?_⟩) (spec_l00Src_one_ok n x7 (2 : Int) hx12) ?_
  rintro r0 o0 n0 ⟨rfl, rfl, rfl⟩ -
  refine awl_nil ?_
  refine aw_weak (weak_ofP [0] (l := [(3, .ptr 0 0), (8, .d (.bool x12.1))]) (objs := [.box [.d (.sl false (x12.2.code.map eIntu8)), .d (.int .i64 x12.2.at_), .d (.int .u64 x12.2.seed)]]) rfl (by simp) rfl (by repeat' first | exact trivial | refine ⟨?_, ?_⟩) ⟨rfl, trivial, rfl, trivial, trivial⟩) ?_
  refine aw_cond rfl (fun hc13 => ?_) (fun hc13 => ?_)
  · have h := if_bt h hc13
    refine aw_seq ?_
    refine aw_region ?_
    refine awl_val hτ rfl rfl rfl ?_
    refine bnd_elim h fun x14 hx14 h => ?_
    refine awl_callP hτ false [0] rfl rfl rfl (enterOk func44 rfl rfl) rfl rfl (by simp) ⟨trivial, trivial, trivial⟩ (by repeat' first | exact trivial | refine ⟨?_, ?_⟩) (spec_l00Src_pick_ok n x12.2 (65536 : Int) hx14) ?_
    rintro r0 o0 n0 ⟨rfl, rfl, rfl⟩ -
    refine awl_val hτ rfl rfl rfl ?_
    refine awl_val hτ rfl rfl rfl ?_
    refine awl_nil ?_
    refine aw_seq ?_
    refine aw_region ?_
    refine awl_val hτ rfl rfl rfl ?_
    refine awl_val hτ rfl rfl rfl ?_
    refine bnd_elim h fun x15 hx15 h => ?_
    refine awl_callP hτ false [0] rfl rfl rfl (enterOk func44 rfl rfl) rfl rfl (by simp) ⟨trivial, trivial, trivial⟩ (by repeat' first | exact trivial | refine ⟨?_, ?_⟩) (spec_l00Src_pick_ok n x14.2 (65536 : Int) hx15) ?_
    rintro r0 o0 n0 ⟨rfl, rfl, rfl⟩ -
    refine awl_val hτ rfl rfl rfl ?_
    refine bnd_elim h fun x16 hx16 h => ?_
    refine awl_callP hτ false [] rfl rfl rfl (enterOk func57 rfl rfl) rfl rfl (by simp) ⟨trivial, trivial⟩ (by repeat' first | exact trivial | refine ⟨?_, ?_⟩) (spec_l01From_ok n (w64 ((w64 (x14.1 * (65536 : Int))) + x15.1)) hx16) ?_
    rintro r0 o0 n0 ⟨rfl, rfl, rfl⟩ -
    refine awl_val hτ rfl rfl rfl ?_
    refine awl_nil ?_
    refine aw_weak (weak_ofP [] (l := [(2, .d (.fl .f32 x16))]) (objs := []) rfl (by simp) rfl (by repeat' first | exact trivial | refine ⟨?_, ?_⟩) ⟨rfl, trivial, trivial⟩) ?_
    refine aw_ret ?_
    have hr := Option.some.inj h
    subst hr
    exact ret_objs (.inr rfl) [] (objs' := []) (new := []) rfl (by simp) (by simp) rfl (by repeat' first | exact trivial | refine ⟨?_, ?_⟩) rfl rfl (by repeat' first | exact trivial | refine ⟨?_, ?_⟩) (fun _ => ⟨by simp [V.flat, V.flatA, V.flatC, D.flat], flat_nil⟩) ⟨rfl, rfl, rfl⟩
  · have h := if_bf h hc13
    refine aw_skip ?_
    refine aw_seq ?_
    refine aw_region ?_
    refine awl_val hτ rfl rfl rfl ?_
    refine bnd_elim h fun x17 hx17 h => ?_
    refine awl_callP hτ false [0] rfl rfl rfl (enterOk func58 rfl rfl) rfl rfl (by simp) ⟨trivial, trivial⟩ (by repeat' first | exact trivial | refine ⟨?_, ?_⟩) (spec_l01DrawFloat_ok n x12.2 hx17) ?_
    rintro r0 o0 n0 ⟨rfl, rfl, rfl⟩ -
    refine awl_val hτ rfl rfl rfl ?_
    refine awl_nil ?_
    refine aw_weak (weak_ofP [] (l := [(2, .d (.fl .f32 x17.1))]) (objs := []) rfl (by simp) rfl (by repeat' first | exact trivial | refine ⟨?_, ?_⟩) ⟨rfl, trivial, trivial⟩) ?_
    refine aw_ret ?_
    have hr := Option.some.inj h
    subst hr
    exact ret_objs (.inr rfl) [] (objs' := []) (new := []) rfl (by simp) (by simp) rfl (by repeat' first | exact trivial | refine ⟨?_, ?_⟩) rfl rfl (by repeat' first | exact trivial | refine ⟨?_, ?_⟩) (fun _ => ⟨by simp [V.flat, V.flatA, V.flatC, D.flat], flat_nil⟩) ⟨rfl, rfl, rfl⟩
theorem spec_B10Number_ok (n : Nat) (code_ : List Int) {r : Nat} (h : m_spec_B10Number n code_ = some r) : ACall prog false 20 [.d (.sl false (code_.map eIntu8))] [] (fun v o new => v = .d (.fl .f32 r) ∧ o = [] ∧ new = []) := spec_B10Number_ok_fr0 false n code_ h
theorem spec_B10Number_ok_fr (n : Nat) (code_ : List Int) {r : Nat} (h : m_spec_B10Number n code_ = some r) : ACall prog true 20 [.d (.sl false (code_.map eIntu8))] [] (fun v o new => v = .d (.fl .f32 r) ∧ o = [] ∧ new = []) := spec_B10Number_ok_fr0 true n code_ h

def m_spec_B10Complex (n : Nat) (code_ : List Int) : Option Cx :=
  (m_spec_l00From n code_).bind fun x5 =>
  (m_spec_l00Src_one n x5 (4 : Int)).bind fun x8 =>
  if x8.1 = true then
    (m_spec_l01DrawComplex n x8.2).bind fun x10 =>
    some x10.1
  else
    (m_spec_l01DrawFine n x8.2).bind fun x11 =>
    some x11.1
theorem spec_B10Complex_ok_fr0 (fr : Bool) (n : Nat) (code_ : List Int) {r : Cx} (h : m_spec_B10Complex n code_ = some r) : ACall prog fr 23 [.d (.sl false (code_.map eIntu8))] [] (fun v o new => v = .d (.cx .f32 r.re r.im) ∧ o = [] ∧ new = []) := by
  refine acall_of_aw hτ func23 rfl (by simp) (by simp) ?_
  unfold m_spec_B10Complex at h
  refine aw_seq ?_
  refine aw_region ?_
  refine awl_val hτ rfl rfl rfl ?_
  refine awl_nil ?_
  refine aw_seq ?_
  refine aw_region ?_
  refine awl_val hτ rfl rfl rfl ?_
  refine bnd_elim h fun x5 hx5 h => ?_
  refine awl_callP hτ false [] rfl rfl rfl (enterOk func43 rfl rfl) rfl rfl (by simp) ⟨trivial, trivial⟩ (by repeat' first | exact trivial | refine ⟨?_, ?_⟩) (spec_l00From_ok n code_ hx5) ?_
  rintro r0 o0 n0 ⟨rfl, rfl, rfl⟩ -
  refine awl_val hτ rfl rfl rfl ?_
  refine awl_nil ?_
  refine aw_seq ?_
  refine aw_seq ?_
  refine aw_region ?_
  refine awl_val hτ rfl rfl rfl ?_
  refine bnd_elim h fun x8 hx8 h => ?_
  refine awl_callP hτ false [0] rfl rfl rfl (enterOk func56 rfl rfl) rfl rfl (by simp) ⟨trivial, trivial, trivial⟩ (by repeat' first | exact trivial | refine ⟨?_, ?_⟩) (spec_l00Src_one_ok n x5 (4 : Int) hx8) ?_
  rintro r0 o0 n0 ⟨rfl, rfl, rfl⟩ -
  refine awl_nil ?_
  refine aw_weak (weak_ofP [0] (l := [(3, .ptr 0 0), (7, .d (.bool x8.1))]) (objs := [.box [.d (.sl false (x8.2.code.map eIntu8)), .d (.int .i64 x8.2.at_), .d (.int .u64 x8.2.seed)]]) rfl (by simp) rfl (by repeat' first | exact trivial | refine ⟨?_, ?_⟩) ⟨rfl, trivial, rfl, trivial, trivial⟩) ?_
  refine aw_cond rfl (fun hc9 => ?_) (fun hc9 => ?_)
  · have h := if_bt h hc9
    refine aw_seq ?_
    refine aw_region ?_
    refine awl_val hτ rfl rfl rfl ?_
    refine bnd_elim h fun x10 hx10 h => ?_
    refine awl_callP hτ false [0] rfl rfl rfl (enterOk func63 rfl rfl) rfl rfl (by simp) ⟨trivial, trivial⟩ (by repeat' first | exact trivial | refine ⟨?_, ?_⟩) (spec_l01DrawComplex_ok n x8.2 hx10) ?_
    rintro r0 o0 n0 ⟨rfl, rfl, rfl⟩ -
    refine awl_val hτ rfl rfl rfl ?_
    refine awl_nil ?_
    refine aw_weak (weak_ofP [] (l := [(2, .d (.cx .f32 x10.1.re x10.1.im))]) (objs := []) rfl (by simp) rfl (by repeat' first | exact trivial | refine ⟨?_, ?_⟩) ⟨rfl, trivial, trivial⟩) ?_
    refine aw_ret ?_
    have hr := Option.some.inj h
    subst hr
    exact ret_objs (.inr rfl) [] (objs' := []) (new := []) rfl (by simp) (by simp) rfl (by repeat' first | exact trivial | refine ⟨?_, ?_⟩) rfl rfl (by repeat' first | exact trivial | refine ⟨?_, ?_⟩) (fun _ => ⟨by simp [V.flat, V.flatA, V.flatC, D.flat], flat_nil⟩) ⟨rfl, rfl, rfl⟩
  · have h := if_bf h hc9
    refine aw_skip ?_
    refine aw_seq ?_
    refine aw_region ?_
    refine awl_val hτ rfl rfl rfl ?_
    refine bnd_elim h fun x11 hx11 h => ?_
    refine awl_callP hτ false [0] rfl rfl rfl (enterOk func64 rfl rfl) rfl rfl (by simp) ⟨trivial, trivial⟩ (by repeat' first | exact trivial | refine ⟨?_, ?_⟩) (spec_l01DrawFine_ok n x8.2 hx11) ?_
    rintro r0 o0 n0 ⟨rfl, rfl, rfl⟩ -
    refine awl_val hτ rfl rfl rfl ?_
    refine awl_nil ?_
    refine aw_weak (weak_ofP [] (l := [(2, .d (.cx .f32 x11.1.re x11.1.im))]) (objs := []) rfl (by simp) rfl (by repeat' first | exact trivial | refine ⟨?_, ?_⟩) ⟨rfl, trivial, trivial⟩) ?_
    refine aw_ret ?_
    have hr := Option.some.inj h
    subst hr
    exact ret_objs (.inr rfl) [] (objs' := []) (new := []) rfl (by simp) (by simp) rfl (by repeat' first | exact trivial | refine ⟨?_, ?_⟩) rfl rfl (by repeat' first | exact trivial | refine ⟨?_, ?_⟩) (fun _ => ⟨by simp [V.flat, V.flatA, V.flatC, D.flat], flat_nil⟩) ⟨rfl, rfl, rfl⟩
theorem spec_B10Complex_ok (n : Nat) (code_ : List Int) {r : Cx} (h : m_spec_B10Complex n code_ = some r) : ACall prog false 23 [.d (.sl false (code_.map eIntu8))] [] (fun v o new => v = .d (.cx .f32 r.re r.im) ∧ o = [] ∧ new = []) := spec_B10Complex_ok_fr0 false n code_ h
theorem spec_B10Complex_ok_fr (n : Nat) (code_ : List Int) {r : Cx} (h : m_spec_B10Complex n code_ = some r) : ACall prog true 23 [.d (.sl false (code_.map eIntu8))] [] (fun v o new => v = .d (.cx .f32 r.re r.im) ∧ o = [] ∧ new = []) := spec_B10Complex_ok_fr0 true n code_ h

def m_spec_l01CSame (n : Nat) (a_ : Cx) (b_ : Cx) : Option Bool :=
  (m_spec_l01Same n a_.re b_.re).bind fun x5 =>
  if x5 = true then
    (m_spec_l01Same n a_.im b_.im).bind fun x7 =>
    some x7
  else
    some false
theorem spec_l01CSame_ok_fr0 (fr : Bool) (n : Nat) (a_ : Cx) (b_ : Cx) {r : Bool} (h : m_spec_l01CSame n a_ b_ = some r) : ACall prog fr 96 [.d (.cx .f32 a_.re a_.im), .d (.cx .f32 b_.re b_.im)] [] (fun v o new => v = .d (.bool r) ∧ o = [] ∧ new = []) := by
  refine acall_of_aw hτ func96 rfl (by simp) (by simp) ?_
  unfold m_spec_l01CSame at h
  refine aw_seq ?_
  refine aw_region ?_
  refine awl_val hτ rfl rfl rfl ?_
  refine awl_nil ?_
  refine aw_seq ?_
  refine aw_region ?_
  refine awl_val hτ rfl rfl rfl ?_
  refine awl_val hτ rfl rfl rfl ?_
  refine awl_val hτ rfl rfl rfl ?_
  refine awl_val hτ rfl rfl rfl ?_
  refine bnd_elim h fun x5 hx5 h => ?_
  refine awl_callP hτ false [] rfl rfl rfl (enterOk func47 rfl rfl) rfl rfl (by simp) ⟨trivial, trivial, trivial⟩ (by repeat' first | exact trivial | refine ⟨?_, ?_⟩) (spec_l01Same_ok n a_.re b_.re hx5) ?_
  rintro r0 o0 n0 ⟨rfl, rfl, rfl⟩ -
  refine awl_val hτ rfl rfl rfl ?_
  refine awl_split 10 rfl (fun hb6 => ?_) (fun hb6 => ?_)
  · have h := if_bt h hb6
    refine awl_val hτ rfl rfl rfl ?_
    refine awl_val hτ rfl rfl rfl ?_
    refine awl_val hτ rfl rfl rfl ?_
    refine awl_val hτ rfl rfl rfl ?_
    refine bnd_elim h fun x7 hx7 h => ?_
    refine awl_callP hτ false [] rfl rfl rfl (enterOk func47 rfl rfl) rfl rfl (by simp) ⟨trivial, trivial, trivial⟩ (by repeat' first | exact trivial | refine ⟨?_, ?_⟩) (spec_l01Same_ok n a_.im b_.im hx7) ?_
    rintro r0 o0 n0 ⟨rfl, rfl, rfl⟩ -
    refine awl_weak (weak_ofP [] (l := [(4, .d (.bool false)), (10, .d (.bool true)), (15, .d (.bool x7))]) (objs := []) rfl (by simp) rfl (by repeat' first | exact trivial | refine ⟨?_, ?_⟩) ⟨rfl, trivial, rfl, trivial, rfl, trivial, trivial⟩) ?_
    refine awl_val hτ rfl rfl rfl ?_
    refine awl_val hτ rfl rfl rfl ?_
    refine awl_nil ?_
    refine aw_weak (weak_ofP [] (l := [(4, .d (.bool x7))]) (objs := []) rfl (by simp) rfl (by repeat' first | exact trivial | refine ⟨?_, ?_⟩) ⟨rfl, trivial, trivial⟩) ?_
    refine aw_ret ?_
    have hr := Option.some.inj h
    subst hr
    exact ret_objs (.inr rfl) [] (objs' := []) (new := []) rfl (by simp) (by simp) rfl (by repeat' first | exact trivial | refine ⟨?_, ?_⟩) rfl rfl (by repeat' first | exact trivial | refine ⟨?_, ?_⟩) (fun _ => ⟨by simp [V.flat, V.flatA, V.flatC, D.flat], flat_nil⟩) ⟨rfl, rfl, rfl⟩
  · have h := if_bf h hb6
    refine awl_skip rfl rfl ?_
    refine awl_skip rfl rfl ?_
    refine awl_skip rfl rfl ?_
    refine awl_skip rfl rfl ?_
    refine awl_skip rfl rfl ?_
    refine awl_weak (weak_ofP [] (l := [(4, .d (.bool false)), (10, .d (.bool false)), (15, .und)]) (objs := []) rfl (by simp) rfl (by repeat' first | exact trivial | refine ⟨?_, ?_⟩) ⟨rfl, trivial, rfl, trivial, rfl, trivial, trivial⟩) ?_
    refine awl_val hτ rfl rfl rfl ?_
    refine awl_val hτ rfl rfl rfl ?_
    refine awl_nil ?_
    refine aw_weak (weak_ofP [] (l := [(4, .d (.bool false))]) (objs := []) rfl (by simp) rfl (by repeat' first | exact trivial | refine ⟨?_, ?_⟩) ⟨rfl, trivial, trivial⟩) ?_
    refine aw_ret ?_
    have hr := Option.some.inj h
    subst hr
    exact ret_objs (.inr rfl) [] (objs' := []) (new := []) rfl (by simp) (by simp) rfl (by repeat' first | exact trivial | refine ⟨?_, ?_⟩) rfl rfl (by repeat' first | exact trivial | refine ⟨?_, ?_⟩) (fun _ => ⟨by simp [V.flat, V.flatA, V.flatC, D.flat], flat_nil⟩) ⟨rfl, rfl, rfl⟩
theorem spec_l01CSame_ok (n : Nat) (a_ : Cx) (b_ : Cx) {r : Bool} (h : m_spec_l01CSame n a_ b_ = some r) : ACall prog false 96 [.d (.cx .f32 a_.re a_.im), .d (.cx .f32 b_.re b_.im)] [] (fun v o new => v = .d (.bool r) ∧ o = [] ∧ new = []) := spec_l01CSame_ok_fr0 false n a_ b_ h
theorem spec_l01CSame_ok_fr (n : Nat) (a_ : Cx) (b_ : Cx) {r : Bool} (h : m_spec_l01CSame n a_ b_ = some r) : ACall prog true 96 [.d (.cx .f32 a_.re a_.im), .d (.cx .f32 b_.re b_.im)] [] (fun v o new => v = .d (.bool r) ∧ o = [] ∧ new = []) := spec_l01CSame_ok_fr0 true n a_ b_ h

def m_spec_SameComplex (n : Nat) (a_ : Cx) (b_ : Cx) : Option Bool :=
  (m_spec_l01CSame n a_ b_).bind fun x2 =>
  some x2
theorem spec_SameComplex_ok_fr0 (fr : Bool) (n : Nat) (a_ : Cx) (b_ : Cx) {r : Bool} (h : m_spec_SameComplex n a_ b_ = some r) : ACall prog fr 65 [.d (.cx .f32 a_.re a_.im), .d (.cx .f32 b_.re b_.im)] [] (fun v o new => v = .d (.bool r) ∧ o = [] ∧ new = []) := by
  refine acall_of_aw hτ func65 rfl (by simp) (by simp) ?_
  unfold m_spec_SameComplex at h
  refine aw_seq ?_
  refine aw_region ?_
  refine awl_val hτ rfl rfl rfl ?_
  refine awl_nil ?_
  refine aw_seq ?_
  refine aw_region ?_
  refine awl_val hτ rfl rfl rfl ?_
  refine awl_val hτ rfl rfl rfl ?_
  refine bnd_elim h fun x2 hx2 h => ?_
  refine awl_callP hτ false [] rfl rfl rfl (enterOk func96 rfl rfl) rfl rfl (by simp) ⟨trivial, trivial, trivial⟩ (by repeat' first | exact trivial | refine ⟨?_, ?_⟩) (spec_l01CSame_ok n a_ b_ hx2) ?_
  rintro r0 o0 n0 ⟨rfl, rfl, rfl⟩ -
  refine awl_val hτ rfl rfl rfl ?_
  refine awl_nil ?_
  refine aw_weak (weak_ofP [] (l := [(4, .d (.bool x2))]) (objs := []) rfl (by simp) rfl (by repeat' first | exact trivial | refine ⟨?_, ?_⟩) ⟨rfl, trivial, trivial⟩) ?_
  refine aw_ret ?_
  have hr := Option.some.inj h
  subst hr
  exact ret_objs (.inr rfl) [] (objs' := []) (new := []) rfl (by simp) (by simp) rfl (by repeat' first | exact trivial | refine ⟨?_, ?_⟩) rfl rfl (by repeat' first | exact trivial | refine ⟨?_, ?_⟩) (fun _ => ⟨by simp [V.flat, V.flatA, V.flatC, D.flat], flat_nil⟩) ⟨rfl, rfl, rfl⟩
theorem spec_SameComplex_ok (n : Nat) (a_ : Cx) (b_ : Cx) {r : Bool} (h : m_spec_SameComplex n a_ b_ = some r) : ACall prog false 65 [.d (.cx .f32 a_.re a_.im), .d (.cx .f32 b_.re b_.im)] [] (fun v o new => v = .d (.bool r) ∧ o = [] ∧ new = []) := spec_SameComplex_ok_fr0 false n a_ b_ h
theorem spec_SameComplex_ok_fr (n : Nat) (a_ : Cx) (b_ : Cx) {r : Bool} (h : m_spec_SameComplex n a_ b_ = some r) : ACall prog true 65 [.d (.cx .f32 a_.re a_.im), .d (.cx .f32 b_.re b_.im)] [] (fun v o new => v = .d (.bool r) ∧ o = [] ∧ new = []) := spec_SameComplex_ok_fr0 true n a_ b_ h

def m_laws_b10Same_l1 (n : Nat) (a_ : List Cx) (b_ : List Cx) : Nat → Int → Option Bool
  | 0, _ => none
  | m18 + 1, v13 =>
    if v13 < (a_.length : Int) then
      (getI a_ v13).bind fun x24 =>
      (getI b_ v13).bind fun x25 =>
      (m_spec_SameComplex n x24 x25).bind fun x26 =>
      if x26 = true then
        (m_laws_b10Same_l1 n a_ b_ m18) (w64 (v13 + (1 : Int)))
      else
        some false
    else
      some true
def m_laws_b10Same (n : Nat) (a_ : List Cx) (b_ : List Cx) : Option Bool :=
  if (a_.length : Int) = (b_.length : Int) then
    m_laws_b10Same_l1 n a_ b_ n (0 : Int)
  else
    some false
theorem laws_b10Same_ok_fr0 (fr : Bool) (n : Nat) (a_ : List Cx) (b_ : List Cx) {r : Bool} (h : m_laws_b10Same n a_ b_ = some r) : ACall prog fr 24 [.d (.sl false (a_.map eCxf32)), .d (.sl false (b_.map eCxf32))] [] (fun v o new => v = .d (.bool r) ∧ o = [] ∧ new = []) := by
  refine acall_of_aw hτ func24 rfl (by simp) (by simp) ?_
  unfold m_laws_b10Same at h
  refine aw_seq ?_
  refine aw_region ?_
  refine awl_val hτ rfl rfl rfl ?_
  refine awl_nil ?_
  refine aw_seq ?_
  refine aw_seq ?_
  refine aw_region ?_
  refine awl_val hτ rfl rfl rfl ?_
  refine awl_val hτ (v := .d (.int .i64 (a_.length : Int))) rfl rfl (Eq.trans rfl (or_len (f := eCxf32) a_)) ?_
  refine awl_val hτ rfl rfl rfl ?_
  refine awl_val hτ (v := .d (.int .i64 (b_.length : Int))) rfl rfl (Eq.trans rfl (or_len (f := eCxf32) b_)) ?_
  refine awl_val hτ (v := .d (.bool (!(decide ((a_.length : Int) = (b_.length : Int)))))) rfl rfl (or_ine _ _) ?_
  refine awl_nil ?_
  refine aw_weak (weak_ofP [] (l := [(0, .d (.sl false (a_.map eCxf32))), (1, .d (.sl false (b_.map eCxf32))), (10, .d (.bool (!(decide ((a_.length : Int) = (b_.length : Int))))))]) (objs := []) rfl (by simp) rfl (by repeat' first | exact trivial | refine ⟨?_, ?_⟩) ⟨rfl, trivial, rfl, trivial, rfl, trivial, trivial⟩) ?_
  refine aw_cond rfl (fun hc9 => ?_) (fun hc9 => ?_)
  · have hc9 := not_t hc9
    have h := if_f h hc9
    refine aw_seq ?_
    refine aw_region ?_
    refine awl_val hτ rfl rfl rfl ?_
    refine awl_nil ?_
    refine aw_weak (weak_ofP [] (l := [(4, .d (.bool false))]) (objs := []) rfl (by simp) rfl (by repeat' first | exact trivial | refine ⟨?_, ?_⟩) ⟨rfl, trivial, trivial⟩) ?_
    refine aw_ret ?_
    have hr := Option.some.inj h
    subst hr
    exact ret_objs (.inr rfl) [] (objs' := []) (new := []) rfl (by simp) (by simp) rfl (by repeat' first | exact trivial | refine ⟨?_, ?_⟩) rfl rfl (by repeat' first | exact trivial | refine ⟨?_, ?_⟩) (fun _ => ⟨by simp [V.flat, V.flatA, V.flatC, D.flat], flat_nil⟩) ⟨rfl, rfl, rfl⟩
  · have hc9 := not_f hc9
    have h := if_t h hc9
    refine aw_skip ?_
    refine aw_seq ?_
    refine aw_seq ?_
    refine aw_region ?_
    refine awl_val hτ rfl rfl rfl ?_
    refine awl_val hτ (v := .d (.int .i64 (a_.length : Int))) rfl rfl (Eq.trans rfl (or_len (f := eCxf32) a_)) ?_
    refine awl_val hτ rfl rfl rfl ?_
    refine awl_nil ?_
    refine aw_block ?_
    refine aw_loop (ι := Nat × Int) (fun (m18, v13) => St.of [(0, .d (.sl false (a_.map eCxf32))), (1, .d (.sl false (b_.map eCxf32))), (12, .d (.int .i64 (a_.length : Int))), (13, .d (.int .i64 v13))] [] f24.ntmps 0) (fun (m18, v13) => m_laws_b10Same_l1 n a_ b_ m18 v13 = some r) (fun x => x.1) (n, (0 : Int)) h (weak_ofP [] (l := [(0, .d (.sl false (a_.map eCxf32))), (1, .d (.sl false (b_.map eCxf32))), (12, .d (.int .i64 (a_.length : Int))), (13, .d (.int .i64 (0 : Int)))]) (objs := []) rfl (by simp) rfl (by repeat' first | exact trivial | refine ⟨?_, ?_⟩) ⟨rfl, trivial, rfl, trivial, rfl, trivial, rfl, trivial, trivial⟩) ?_
    rintro ⟨m18, v13⟩ h
    replace h : m_laws_b10Same_l1 n a_ b_ m18 v13 = some r := h
    rcases m18 with _ | m18
    · rw [m_laws_b10Same_l1] at h; cases h
    rw [m_laws_b10Same_l1] at h
    refine aw_seq ?_
    refine aw_region ?_
    refine awl_val hτ rfl rfl rfl ?_
    refine awl_nil ?_
    refine aw_seq ?_
    refine aw_cond rfl (fun hc20 => ?_) (fun hc20 => ?_)
    · have h := if_t h hc20
      refine aw_skip ?_
      refine aw_seq ?_
      refine aw_block ?_
      refine aw_seq ?_
      refine aw_region ?_
      refine awl_val hτ rfl rfl rfl ?_
      refine awl_val hτ rfl rfl rfl ?_
      refine awl_nil ?_
      refine aw_seq ?_
      refine any_start ?_
      refine any_val hτ [] 0 rfl rfl rfl rfl rfl ?_
      refine any_val hτ [] 1 rfl rfl rfl rfl rfl ?_
      refine bnd_elim h fun x24 hx24 h => ?_
      refine any_elem hτ [] 2 rfl rfl rfl rfl rfl (getI_some hx24).1 (map_getI hx24) rfl ?_
      refine any_val hτ [] 3 rfl rfl rfl rfl rfl ?_
      refine any_val hτ [] 4 rfl rfl rfl rfl rfl ?_
      refine any_val hτ [] 5 rfl rfl rfl rfl rfl ?_
      refine bnd_elim h fun x25 hx25 h => ?_
      refine any_elem hτ [] 6 rfl rfl rfl rfl rfl (getI_some hx25).1 (map_getI hx25) rfl ?_
      refine any_val hτ [] 7 rfl rfl rfl rfl rfl ?_
      refine bnd_elim h fun x26 hx26 h => ?_
      refine any_callP hτ false [] [] 8 rfl rfl rfl rfl (enterOk func65 rfl rfl) rfl rfl (by simp) ⟨trivial, trivial, trivial⟩ (by repeat' first | exact trivial | refine ⟨?_, ?_⟩) (spec_SameComplex_ok n x24 x25 hx26) trivial ?_
      refine any_val hτ [] 9 rfl rfl rfl rfl rfl ?_
      refine any_done mixed (by kernel_rfl) ?_
      refine aw_weak (weak_ofP [] (l := [(0, .d (.sl false (a_.map eCxf32))), (1, .d (.sl false (b_.map eCxf32))), (12, .d (.int .i64 (a_.length : Int))), (13, .d (.int .i64 v13)), (25, .d (.bool (!x26)))]) (objs := []) rfl (by simp) rfl (by repeat' first | exact trivial | refine ⟨?_, ?_⟩) ⟨rfl, trivial, rfl, trivial, rfl, trivial, rfl, trivial, rfl, trivial, trivial⟩) ?_
      refine aw_cond rfl (fun hc27 => ?_) (fun hc27 => ?_)
      · have hc27 := not_t hc27
        have h := if_bf h hc27
        refine aw_seq ?_
        refine aw_region ?_
        refine awl_val hτ rfl rfl rfl ?_
        refine awl_nil ?_
        refine aw_weak (weak_ofP [] (l := [(4, .d (.bool false))]) (objs := []) rfl (by simp) rfl (by repeat' first | exact trivial | refine ⟨?_, ?_⟩) ⟨rfl, trivial, trivial⟩) ?_
        refine aw_ret ?_
        have hr := Option.some.inj h
        subst hr
        exact ret_objs (.inr rfl) [] (objs' := []) (new := []) rfl (by simp) (by simp) rfl (by repeat' first | exact trivial | refine ⟨?_, ?_⟩) rfl rfl (by repeat' first | exact trivial | refine ⟨?_, ?_⟩) (fun _ => ⟨by simp [V.flat, V.flatA, V.flatC, D.flat], flat_nil⟩) ⟨rfl, rfl, rfl⟩
      · have hc27 := not_f hc27
        have h := if_bt h hc27
        refine aw_skip ?_
        refine aw_region ?_
        refine awl_val hτ rfl rfl rfl ?_
        refine awl_val hτ rfl rfl rfl ?_
        refine awl_nil ?_
        exact ⟨(m18, (w64 (v13 + (1 : Int)))), h, Nat.lt_succ_self m18, (weak_ofP [] (l := [(0, .d (.sl false (a_.map eCxf32))), (1, .d (.sl false (b_.map eCxf32))), (12, .d (.int .i64 (a_.length : Int))), (13, .d (.int .i64 (w64 (v13 + (1 : Int)))))]) (objs := []) rfl (by simp) rfl (by repeat' first | exact trivial | refine ⟨?_, ?_⟩) ⟨rfl, trivial, rfl, trivial, rfl, trivial, rfl, trivial, trivial⟩)⟩
    · have h := if_f h hc20
      refine aw_exit ?_
      refine aw_seq ?_
      refine aw_region ?_
      refine awl_val hτ rfl rfl rfl ?_
      refine awl_nil ?_
      refine aw_weak (weak_ofP [] (l := [(4, .d (.bool true))]) (objs := []) rfl (by simp) rfl (by repeat' first | exact trivial | refine ⟨?_, ?_⟩) ⟨rfl, trivial, trivial⟩) ?_
      refine aw_ret ?_
      have hr := Option.some.inj h
      subst hr
      exact ret_objs (.inr rfl) [] (objs' := []) (new := []) rfl (by simp) (by simp) rfl (by repeat' first | exact trivial | refine ⟨?_, ?_⟩) rfl rfl (by repeat' first | exact trivial | refine ⟨?_, ?_⟩) (fun _ => ⟨by simp [V.flat, V.flatA, V.flatC, D.flat], flat_nil⟩) ⟨rfl, rfl, rfl⟩
theorem laws_b10Same_ok (n : Nat) (a_ : List Cx) (b_ : List Cx) {r : Bool} (h : m_laws_b10Same n a_ b_ = some r) : ACall prog false 24 [.d (.sl false (a_.map eCxf32)), .d (.sl false (b_.map eCxf32))] [] (fun v o new => v = .d (.bool r) ∧ o = [] ∧ new = []) := laws_b10Same_ok_fr0 false n a_ b_ h
theorem laws_b10Same_ok_fr (n : Nat) (a_ : List Cx) (b_ : List Cx) {r : Bool} (h : m_laws_b10Same n a_ b_ = some r) : ACall prog true 24 [.d (.sl false (a_.map eCxf32)), .d (.sl false (b_.map eCxf32))] [] (fun v o new => v = .d (.bool r) ∧ o = [] ∧ new = []) := laws_b10Same_ok_fr0 true n a_ b_ h

def m_impl_NarrowComplex (n : Nat) (x_ : Cx) : Option Cx :=
  (fconv .f64 .f32 x_.re).bind fun x3 =>
  (fconv .f64 .f32 x_.im).bind fun x4 =>
  some (Cx.mk x3 x4)
theorem impl_NarrowComplex_ok_fr0 (fr : Bool) (n : Nat) (x_ : Cx) {r : Cx} (h : m_impl_NarrowComplex n x_ = some r) : ACall prog fr 26 [.d (.cx .f64 x_.re x_.im)] [] (fun v o new => v = .d (.cx .f32 r.re r.im) ∧ o = [] ∧ new = []) := by
  refine acall_of_aw hτ func26 rfl (by simp) (by simp) ?_
  unfold m_impl_NarrowComplex at h
  refine aw_seq ?_
  refine aw_region ?_
  refine awl_val hτ rfl rfl rfl ?_
  refine awl_nil ?_
  refine aw_seq ?_
  refine aw_region ?_
  refine awl_val hτ rfl rfl rfl ?_
  refine awl_val hτ rfl rfl rfl ?_
  refine bnd_elim h fun x3 hx3 h => ?_
  refine awl_val hτ (v := .d (.fl .f32 x3)) rfl rfl (conv_val hx3) ?_
  refine awl_val hτ rfl rfl rfl ?_
  refine awl_val hτ rfl rfl rfl ?_
  refine bnd_elim h fun x4 hx4 h => ?_
  refine awl_val hτ (v := .d (.fl .f32 x4)) rfl rfl (conv_val hx4) ?_
  refine awl_val hτ rfl rfl rfl ?_
  refine awl_val hτ rfl rfl rfl ?_
  refine awl_nil ?_
  refine aw_weak (weak_ofP [] (l := [(2, .d (.cx .f32 x3 x4))]) (objs := []) rfl (by simp) rfl (by repeat' first | exact trivial | refine ⟨?_, ?_⟩) ⟨rfl, trivial, trivial⟩) ?_
  refine aw_ret ?_
  have hr := Option.some.inj h
  subst hr
  exact ret_objs (.inr rfl) [] (objs' := []) (new := []) rfl (by simp) (by simp) rfl (by repeat' first | exact trivial | refine ⟨?_, ?_⟩) rfl rfl (by repeat' first | exact trivial | refine ⟨?_, ?_⟩) (fun _ => ⟨by simp [V.flat, V.flatA, V.flatC, D.flat], flat_nil⟩) ⟨rfl, rfl, rfl⟩
theorem impl_NarrowComplex_ok (n : Nat) (x_ : Cx) {r : Cx} (h : m_impl_NarrowComplex n x_ = some r) : ACall prog false 26 [.d (.cx .f64 x_.re x_.im)] [] (fun v o new => v = .d (.cx .f32 r.re r.im) ∧ o = [] ∧ new = []) := impl_NarrowComplex_ok_fr0 false n x_ h
theorem impl_NarrowComplex_ok_fr (n : Nat) (x_ : Cx) {r : Cx} (h : m_impl_NarrowComplex n x_ = some r) : ACall prog true 26 [.d (.cx .f64 x_.re x_.im)] [] (fun v o new => v = .d (.cx .f32 r.re r.im) ∧ o = [] ∧ new = []) := impl_NarrowComplex_ok_fr0 true n x_ h

def m_impl_SameNumber_j1 (n : Nat) (a_ : Nat) (b_ : Nat) : Option Bool :=
  grd (isnan .f32 a_ = false) <|
  grd (isnan .f32 b_ = false) <|
  some (decide ((a_ : Int) = (b_ : Int)))
def m_impl_SameNumber_j2 (n : Nat) (a_ : Nat) (b_ : Nat) (v26 : Bool) : Option Bool :=
  if v26 = true then
    (m_impl_isNaN n a_).bind fun x28 =>
    if x28 = true then
      (m_impl_isNaN n b_).bind fun x30 =>
      some x30
    else
      some false
  else
    m_impl_SameNumber_j1 n a_ b_
def m_impl_SameNumber (n : Nat) (a_ : Nat) (b_ : Nat) : Option Bool :=
  (m_impl_isNaN n a_).bind fun x32 =>
  if x32 = true then
    m_impl_SameNumber_j2 n a_ b_ true
  else
    (m_impl_isNaN n b_).bind fun x34 =>
    m_impl_SameNumber_j2 n a_ b_ x34
theorem impl_SameNumber_ok_fr0 (fr : Bool) (n : Nat) (a_ : Nat) (b_ : Nat) {r : Bool} (h : m_impl_SameNumber n a_ b_ = some r) : ACall prog fr 66 [.d (.fl .f32 a_), .d (.fl .f32 b_)] [] (fun v o new => v = .d (.bool r) ∧ o = [] ∧ new = []) := by
  refine acall_of_aw hτ func66 rfl (by simp) (by simp) ?_
  unfold m_impl_SameNumber at h
  refine aw_seq ?_
  refine aw_region ?_
  refine awl_val hτ rfl rfl rfl ?_
  refine awl_nil ?_
  refine aw_hk1 (ι := Unit) (fun _ => St.of [(0, .d (.fl .f32 a_)), (1, .d (.fl .f32 b_))] [] f66.ntmps 0) (fun _ => m_impl_SameNumber_j1 n a_ b_ = some r) ?_ (fun hk21 => ?_)
  · rintro ⟨⟩ h
    replace h : m_impl_SameNumber_j1 n a_ b_ = some r := h
    unfold m_impl_SameNumber_j1 at h
    refine aw_seq ?_
    refine aw_region ?_
    refine awl_val hτ rfl rfl rfl ?_
    refine grd_elim h fun hg19 h => ?_
    refine awl_ext hτ rfl rfl rfl (ext62 hg19) ?_
    refine awl_val hτ rfl rfl rfl ?_
    refine grd_elim h fun hg20 h => ?_
    refine awl_ext hτ rfl rfl rfl (ext62 hg20) ?_
    refine awl_val hτ (v := .d (.bool (decide ((a_ : Int) = (b_ : Int))))) rfl rfl (or_ieq _ _) ?_
    refine awl_val hτ rfl rfl rfl ?_
    refine awl_nil ?_
    refine aw_weak (weak_ofP [] (l := [(4, .d (.bool (decide ((a_ : Int) = (b_ : Int)))))]) (objs := []) rfl (by simp) rfl (by repeat' first | exact trivial | refine ⟨?_, ?_⟩) ⟨rfl, trivial, trivial⟩) ?_
    refine aw_ret ?_
    have hr := Option.some.inj h
    subst hr
    exact ret_objs (.inr rfl) [] (objs' := []) (new := []) rfl (by simp) (by simp) rfl (by repeat' first | exact trivial | refine ⟨?_, ?_⟩) rfl rfl (by repeat' first | exact trivial | refine ⟨?_, ?_⟩) (fun _ => ⟨by simp [V.flat, V.flatA, V.flatC, D.flat], flat_nil⟩) ⟨rfl, rfl, rfl⟩
  · refine aw_seq ?_
    refine aw_hk1 (ι := Bool) (fun v26 => St.of [(0, .d (.fl .f32 a_)), (1, .d (.fl .f32 b_)), (10, .d (.bool v26))] [] f66.ntmps 0) (fun v26 => m_impl_SameNumber_j2 n a_ b_ v26 = some r) ?_ (fun hk31 => ?_)
    · rintro v26 h
      replace h : m_impl_SameNumber_j2 n a_ b_ v26 = some r := h
      unfold m_impl_SameNumber_j2 at h
      refine aw_cond rfl (fun hc27 => ?_) (fun hc27 => ?_)
      · have h := if_bt h hc27
        refine aw_seq ?_
        refine aw_region ?_
        refine awl_val hτ rfl rfl rfl ?_
        refine bnd_elim h fun x28 hx28 h => ?_
        refine awl_callP hτ false [] rfl rfl rfl (enterOk func61 rfl rfl) rfl rfl (by simp) ⟨trivial, trivial⟩ (by repeat' first | exact trivial | refine ⟨?_, ?_⟩) (impl_isNaN_ok n a_ hx28) ?_
        rintro r0 o0 n0 ⟨rfl, rfl, rfl⟩ -
        refine awl_val hτ rfl rfl rfl ?_
        refine awl_split 13 rfl (fun hb29 => ?_) (fun hb29 => ?_)
        · have h := if_bt h hb29
          refine awl_val hτ rfl rfl rfl ?_
          refine bnd_elim h fun x30 hx30 h => ?_
          refine awl_callP hτ false [] rfl rfl rfl (enterOk func61 rfl rfl) rfl rfl (by simp) ⟨trivial, trivial⟩ (by repeat' first | exact trivial | refine ⟨?_, ?_⟩) (impl_isNaN_ok n b_ hx30) ?_
          rintro r0 o0 n0 ⟨rfl, rfl, rfl⟩ -
          refine awl_val hτ rfl rfl rfl ?_
          refine awl_val hτ rfl rfl rfl ?_
          refine awl_nil ?_
          refine aw_weak (weak_ofP [] (l := [(4, .d (.bool x30))]) (objs := []) rfl (by simp) rfl (by repeat' first | exact trivial | refine ⟨?_, ?_⟩) ⟨rfl, trivial, trivial⟩) ?_
          refine aw_ret ?_
          have hr := Option.some.inj h
          subst hr
          exact ret_objs (.inr rfl) [] (objs' := []) (new := []) rfl (by simp) (by simp) rfl (by repeat' first | exact trivial | refine ⟨?_, ?_⟩) rfl rfl (by repeat' first | exact trivial | refine ⟨?_, ?_⟩) (fun _ => ⟨by simp [V.flat, V.flatA, V.flatC, D.flat], flat_nil⟩) ⟨rfl, rfl, rfl⟩
        · have h := if_bf h hb29
          refine awl_skip rfl rfl ?_
          refine awl_skip rfl rfl ?_
          refine awl_val hτ rfl rfl rfl ?_
          refine awl_val hτ rfl rfl rfl ?_
          refine awl_nil ?_
          refine aw_weak (weak_ofP [] (l := [(4, .d (.bool false))]) (objs := []) rfl (by simp) rfl (by repeat' first | exact trivial | refine ⟨?_, ?_⟩) ⟨rfl, trivial, trivial⟩) ?_
          refine aw_ret ?_
          have hr := Option.some.inj h
          subst hr
          exact ret_objs (.inr rfl) [] (objs' := []) (new := []) rfl (by simp) (by simp) rfl (by repeat' first | exact trivial | refine ⟨?_, ?_⟩) rfl rfl (by repeat' first | exact trivial | refine ⟨?_, ?_⟩) (fun _ => ⟨by simp [V.flat, V.flatA, V.flatC, D.flat], flat_nil⟩) ⟨rfl, rfl, rfl⟩
      · have h := if_bf h hc27
        refine aw_skip ?_
        refine aw_weak (weak_ofP [] (l := [(0, .d (.fl .f32 a_)), (1, .d (.fl .f32 b_))]) (objs := []) rfl (by simp) rfl (by repeat' first | exact trivial | refine ⟨?_, ?_⟩) ⟨rfl, trivial, rfl, trivial, trivial⟩) ?_
        exact hk21 () h
    · refine aw_seq ?_
      refine aw_region ?_
      refine awl_val hτ rfl rfl rfl ?_
      refine bnd_elim h fun x32 hx32 h => ?_
      refine awl_callP hτ false [] rfl rfl rfl (enterOk func61 rfl rfl) rfl rfl (by simp) ⟨trivial, trivial⟩ (by repeat' first | exact trivial | refine ⟨?_, ?_⟩) (impl_isNaN_ok n a_ hx32) ?_
      rintro r0 o0 n0 ⟨rfl, rfl, rfl⟩ -
      refine awl_val hτ rfl rfl rfl ?_
      refine awl_split 7 rfl (fun hb33 => ?_) (fun hb33 => ?_)
      · have h := if_bt h hb33
        refine awl_skip rfl rfl ?_
        refine awl_skip rfl rfl ?_
        refine awl_val hτ rfl rfl rfl ?_
        refine awl_nil ?_
        refine aw_weak (weak_ofP [] (l := [(0, .d (.fl .f32 a_)), (1, .d (.fl .f32 b_)), (10, .d (.bool true))]) (objs := []) rfl (by simp) rfl (by repeat' first | exact trivial | refine ⟨?_, ?_⟩) ⟨rfl, trivial, rfl, trivial, rfl, trivial, trivial⟩) ?_
        exact hk31 true h
      · have h := if_bf h hb33
        refine awl_val hτ rfl rfl rfl ?_
        refine bnd_elim h fun x34 hx34 h => ?_
        refine awl_callP hτ false [] rfl rfl rfl (enterOk func61 rfl rfl) rfl rfl (by simp) ⟨trivial, trivial⟩ (by repeat' first | exact trivial | refine ⟨?_, ?_⟩) (impl_isNaN_ok n b_ hx34) ?_
        rintro r0 o0 n0 ⟨rfl, rfl, rfl⟩ -
        refine awl_val hτ rfl rfl rfl ?_
        refine awl_nil ?_
        refine aw_weak (weak_ofP [] (l := [(0, .d (.fl .f32 a_)), (1, .d (.fl .f32 b_)), (10, .d (.bool x34))]) (objs := []) rfl (by simp) rfl (by repeat' first | exact trivial | refine ⟨?_, ?_⟩) ⟨rfl, trivial, rfl, trivial, rfl, trivial, trivial⟩) ?_
        exact hk31 x34 h
theorem impl_SameNumber_ok (n : Nat) (a_ : Nat) (b_ : Nat) {r : Bool} (h : m_impl_SameNumber n a_ b_ = some r) : ACall prog false 66 [.d (.fl .f32 a_), .d (.fl .f32 b_)] [] (fun v o new => v = .d (.bool r) ∧ o = [] ∧ new = []) := impl_SameNumber_ok_fr0 false n a_ b_ h
theorem impl_SameNumber_ok_fr (n : Nat) (a_ : Nat) (b_ : Nat) {r : Bool} (h : m_impl_SameNumber n a_ b_ = some r) : ACall prog true 66 [.d (.fl .f32 a_), .d (.fl .f32 b_)] [] (fun v o new => v = .d (.bool r) ∧ o = [] ∧ new = []) := impl_SameNumber_ok_fr0 true n a_ b_ h

def m_impl_SameComplex (n : Nat) (a_ : Cx) (b_ : Cx) : Option Bool :=
  (m_impl_SameNumber n a_.re b_.re).bind fun x5 =>
  if x5 = true then
    (m_impl_SameNumber n a_.im b_.im).bind fun x7 =>
    some x7
  else
    some false
theorem impl_SameComplex_ok_fr0 (fr : Bool) (n : Nat) (a_ : Cx) (b_ : Cx) {r : Bool} (h : m_impl_SameComplex n a_ b_ = some r) : ACall prog fr 25 [.d (.cx .f32 a_.re a_.im), .d (.cx .f32 b_.re b_.im)] [] (fun v o new => v = .d (.bool r) ∧ o = [] ∧ new = []) := by
  refine acall_of_aw hτ func25 rfl (by simp) (by simp) ?_
  unfold m_impl_SameComplex at h
  refine aw_seq ?_
  refine aw_region ?_
  refine awl_val hτ rfl rfl rfl ?_
  refine awl_nil ?_
  refine aw_seq ?_
  refine aw_region ?_
  refine awl_val hτ rfl rfl rfl ?_
  refine awl_val hτ rfl rfl rfl ?_
  refine awl_val hτ rfl rfl rfl ?_
  refine awl_val hτ rfl rfl rfl ?_
  refine bnd_elim h fun x5 hx5 h => ?_
  refine awl_callP hτ false [] rfl rfl rfl (enterOk func66 rfl rfl) rfl rfl (by simp) ⟨trivial, trivial, trivial⟩ (by repeat' first | exact trivial | refine ⟨?_, ?_⟩) (impl_SameNumber_ok n a_.re b_.re hx5) ?_
  rintro r0 o0 n0 ⟨rfl, rfl, rfl⟩ -
  refine awl_val hτ rfl rfl rfl ?_
  refine awl_split 10 rfl (fun hb6 => ?_) (fun hb6 => ?_)
  · have h := if_bt h hb6
    refine awl_val hτ rfl rfl rfl ?_
    refine awl_val hτ rfl rfl rfl ?_
    refine awl_val hτ rfl rfl rfl ?_
    refine awl_val hτ rfl rfl rfl ?_
    refine bnd_elim h fun x7 hx7 h => ?_
    refine awl_callP hτ false [] rfl rfl rfl (enterOk func66 rfl rfl) rfl rfl (by simp) ⟨trivial, trivial, trivial⟩ (by repeat' first | exact trivial | refine ⟨?_, ?_⟩) (impl_SameNumber_ok n a_.im b_.im hx7) ?_
    rintro r0 o0 n0 ⟨rfl, rfl, rfl⟩ -
    refine awl_weak (weak_ofP [] (l := [(4, .d (.bool false)), (10, .d (.bool true)), (15, .d (.bool x7))]) (objs := []) rfl (by simp) rfl (by repeat' first | exact trivial | refine ⟨?_, ?_⟩) ⟨rfl, trivial, rfl, trivial, rfl, trivial, trivial⟩) ?_
    refine awl_val hτ rfl rfl rfl ?_
    refine awl_val hτ rfl rfl rfl ?_
    refine awl_nil ?_
    refine aw_weak (weak_ofP [] (l := [(4, .d (.bool x7))]) (objs := []) rfl (by simp) rfl (by repeat' first | exact trivial | refine ⟨?_, ?_⟩) ⟨rfl, trivial, trivial⟩) ?_
    refine aw_ret ?_
    have hr := Option.some.inj h
    subst hr
    exact ret_objs (.inr rfl) [] (objs' := []) (new := []) rfl (by simp) (by simp) rfl (by repeat' first | exact trivial | refine ⟨?_, ?_⟩) rfl rfl (by repeat' first | exact trivial | refine ⟨?_, ?_⟩) (fun _ => ⟨by simp [V.flat, V.flatA, V.flatC, D.flat], flat_nil⟩) ⟨rfl, rfl, rfl⟩
  · have h := if_bf h hb6
    refine awl_skip rfl rfl ?_
    refine awl_skip rfl rfl ?_
    refine awl_skip rfl rfl ?_
    refine awl_skip rfl rfl ?_
    refine awl_skip rfl rfl ?_
    refine awl_weak (weak_ofP [] (l := [(4, .d (.bool false)), (10, .d (.bool false)), (15, .und)]) (objs := []) rfl (by simp) rfl (by repeat' first | exact trivial | refine ⟨?_, ?_⟩) ⟨rfl, trivial, rfl, trivial, rfl, trivial, trivial⟩) ?_
    refine awl_val hτ rfl rfl rfl ?_
    refine awl_val hτ rfl rfl rfl ?_
    refine awl_nil ?_
    refine aw_weak (weak_ofP [] (l := [(4, .d (.bool false))]) (objs := []) rfl (by simp) rfl (by repeat' first | exact trivial | refine ⟨?_, ?_⟩) ⟨rfl, trivial, trivial⟩) ?_
    refine aw_ret ?_
    have hr := Option.some.inj h
    subst hr
    exact ret_objs (.inr rfl) [] (objs' := []) (new := []) rfl (by simp) (by simp) rfl (by repeat' first | exact trivial | refine ⟨?_, ?_⟩) rfl rfl (by repeat' first | exact trivial | refine ⟨?_, ?_⟩) (fun _ => ⟨by simp [V.flat, V.flatA, V.flatC, D.flat], flat_nil⟩) ⟨rfl, rfl, rfl⟩
theorem impl_SameComplex_ok (n : Nat) (a_ : Cx) (b_ : Cx) {r : Bool} (h : m_impl_SameComplex n a_ b_ = some r) : ACall prog false 25 [.d (.cx .f32 a_.re a_.im), .d (.cx .f32 b_.re b_.im)] [] (fun v o new => v = .d (.bool r) ∧ o = [] ∧ new = []) := impl_SameComplex_ok_fr0 false n a_ b_ h
theorem impl_SameComplex_ok_fr (n : Nat) (a_ : Cx) (b_ : Cx) {r : Bool} (h : m_impl_SameComplex n a_ b_ = some r) : ACall prog true 25 [.d (.cx .f32 a_.re a_.im), .d (.cx .f32 b_.re b_.im)] [] (fun v o new => v = .d (.bool r) ∧ o = [] ∧ new = []) := impl_SameComplex_ok_fr0 true n a_ b_ h

def m_impl_IsFinite (n : Nat) (x_ : Nat) : Option Bool :=
  some (fcmp .eql .f32 (farith .sub .f32 x_ x_) (0 : Nat))
theorem impl_IsFinite_ok_fr0 (fr : Bool) (n : Nat) (x_ : Nat) {r : Bool} (h : m_impl_IsFinite n x_ = some r) : ACall prog fr 75 [.d (.fl .f32 x_)] [] (fun v o new => v = .d (.bool r) ∧ o = [] ∧ new = []) := by
  refine acall_of_aw hτ func75 rfl (by simp) (by simp) ?_
  unfold m_impl_IsFinite at h
  refine aw_seq ?_
  refine aw_region ?_
  refine awl_val hτ rfl rfl rfl ?_
  refine awl_nil ?_
  refine aw_seq ?_
  refine aw_region ?_
  refine awl_val hτ rfl rfl rfl ?_
  refine awl_val hτ rfl rfl rfl ?_
  refine awl_val hτ rfl rfl rfl ?_
  refine awl_val hτ rfl rfl rfl ?_
  refine awl_val hτ rfl rfl rfl ?_
  refine awl_nil ?_
  refine aw_weak (weak_ofP [] (l := [(2, .d (.bool (fcmp .eql .f32 (farith .sub .f32 x_ x_) (0 : Nat))))]) (objs := []) rfl (by simp) rfl (by repeat' first | exact trivial | refine ⟨?_, ?_⟩) ⟨rfl, trivial, trivial⟩) ?_
  refine aw_ret ?_
  have hr := Option.some.inj h
  subst hr
  exact ret_objs (.inr rfl) [] (objs' := []) (new := []) rfl (by simp) (by simp) rfl (by repeat' first | exact trivial | refine ⟨?_, ?_⟩) rfl rfl (by repeat' first | exact trivial | refine ⟨?_, ?_⟩) (fun _ => ⟨by simp [V.flat, V.flatA, V.flatC, D.flat], flat_nil⟩) ⟨rfl, rfl, rfl⟩
theorem impl_IsFinite_ok (n : Nat) (x_ : Nat) {r : Bool} (h : m_impl_IsFinite n x_ = some r) : ACall prog false 75 [.d (.fl .f32 x_)] [] (fun v o new => v = .d (.bool r) ∧ o = [] ∧ new = []) := impl_IsFinite_ok_fr0 false n x_ h
theorem impl_IsFinite_ok_fr (n : Nat) (x_ : Nat) {r : Bool} (h : m_impl_IsFinite n x_ = some r) : ACall prog true 75 [.d (.fl .f32 x_)] [] (fun v o new => v = .d (.bool r) ∧ o = [] ∧ new = []) := impl_IsFinite_ok_fr0 true n x_ h

def m_impl_finite_1 (n : Nat) (x_ : Nat) : Option Bool :=
  (m_impl_IsFinite n x_).bind fun x2 =>
  some (!x2)
theorem impl_finite_1_ok_fr0 (fr : Bool) (n : Nat) (x_ : Nat) {r : Bool} (h : m_impl_finite_1 n x_ = some r) : ACall prog fr 98 [.d (.fl .f32 x_)] [] (fun v o new => v = .d (.bool r) ∧ o = [] ∧ new = []) := by
  refine acall_of_aw hτ func98 rfl (by simp) (by simp) ?_
  unfold m_impl_finite_1 at h
  refine aw_seq ?_
  refine aw_region ?_
  refine awl_val hτ rfl rfl rfl ?_
  refine awl_nil ?_
  refine aw_seq ?_
  refine aw_region ?_
  refine awl_val hτ rfl rfl rfl ?_
  refine bnd_elim h fun x2 hx2 h => ?_
  refine awl_callP hτ false [] rfl rfl rfl (enterOk func75 rfl rfl) rfl rfl (by simp) ⟨trivial, trivial⟩ (by repeat' first | exact trivial | refine ⟨?_, ?_⟩) (impl_IsFinite_ok n x_ hx2) ?_
  rintro r0 o0 n0 ⟨rfl, rfl, rfl⟩ -
  refine awl_val hτ rfl rfl rfl ?_
  refine awl_val hτ rfl rfl rfl ?_
  refine awl_nil ?_
  refine aw_weak (weak_ofP [] (l := [(2, .d (.bool (!x2)))]) (objs := []) rfl (by simp) rfl (by repeat' first | exact trivial | refine ⟨?_, ?_⟩) ⟨rfl, trivial, trivial⟩) ?_
  refine aw_ret ?_
  have hr := Option.some.inj h
  subst hr
  exact ret_objs (.inr rfl) [] (objs' := []) (new := []) rfl (by simp) (by simp) rfl (by repeat' first | exact trivial | refine ⟨?_, ?_⟩) rfl rfl (by repeat' first | exact trivial | refine ⟨?_, ?_⟩) (fun _ => ⟨by simp [V.flat, V.flatA, V.flatC, D.flat], flat_nil⟩) ⟨rfl, rfl, rfl⟩
theorem impl_finite_1_ok (n : Nat) (x_ : Nat) {r : Bool} (h : m_impl_finite_1 n x_ = some r) : ACall prog false 98 [.d (.fl .f32 x_)] [] (fun v o new => v = .d (.bool r) ∧ o = [] ∧ new = []) := impl_finite_1_ok_fr0 false n x_ h
theorem impl_finite_1_ok_fr (n : Nat) (x_ : Nat) {r : Bool} (h : m_impl_finite_1 n x_ = some r) : ACall prog true 98 [.d (.fl .f32 x_)] [] (fun v o new => v = .d (.bool r) ∧ o = [] ∧ new = []) := impl_finite_1_ok_fr0 true n x_ h

def m_slices_IndexFunc_l1 (n : Nat) (s_ : List Nat) : Nat → Int → Option Int
  | 0, _ => none
  | m13 + 1, v9 =>
    if v9 < (s_.length : Int) then
      (getI s_ v9).bind fun x18 =>
      (m_impl_finite_1 n x18).bind fun x19 =>
      if x19 = true then
        some v9
      else
        (m_slices_IndexFunc_l1 n s_ m13) (w64 (v9 + (1 : Int)))
    else
      some (-1 : Int)
def m_slices_IndexFunc (n : Nat) (s_ : List Nat) : Option Int :=
  m_slices_IndexFunc_l1 n s_ n (0 : Int)
theorem slices_IndexFunc_ok_fr0 (fr : Bool) (n : Nat) (s_ : List Nat) {r : Int} (h : m_slices_IndexFunc n s_ = some r) : ACall prog fr 120 [.d (.sl false (s_.map eNatf32)), .func 98 [] []] [] (fun v o new => v = .d (.int .i64 r) ∧ o = [] ∧ new = []) := by
  refine acall_of_aw hτ func120 rfl (by simp) (by simp) ?_
  unfold m_slices_IndexFunc at h
  refine aw_seq ?_
  refine aw_region ?_
  refine awl_val hτ rfl rfl rfl ?_
  refine awl_nil ?_
  refine aw_seq ?_
  refine aw_seq ?_
  refine aw_region ?_
  refine awl_val hτ rfl rfl rfl ?_
  refine awl_val hτ (v := .d (.int .i64 (s_.length : Int))) rfl rfl (Eq.trans rfl (or_len (f := eNatf32) s_)) ?_
  refine awl_val hτ rfl rfl rfl ?_
  refine awl_nil ?_
  refine aw_block ?_
  refine aw_loop (ι := Nat × Int) (fun (m13, v9) => St.of [(0, .d (.sl false (s_.map eNatf32))), (1, .func 98 [] []), (7, .d (.int .i64 (s_.length : Int))), (8, .d (.int .i64 v9))] [] f120.ntmps 0) (fun (m13, v9) => m_slices_IndexFunc_l1 n s_ m13 v9 = some r) (fun x => x.1) (n, (0 : Int)) h (weak_ofP [] (l := [(0, .d (.sl false (s_.map eNatf32))), (1, .func 98 [] []), (7, .d (.int .i64 (s_.length : Int))), (8, .d (.int .i64 (0 : Int)))]) (objs := []) rfl (by simp) rfl (by repeat' first | exact trivial | refine ⟨?_, ?_⟩) ⟨rfl, trivial, rfl, (by repeat' first | exact trivial | refine ⟨?_, ?_⟩), rfl, trivial, rfl, trivial, trivial⟩) ?_
  rintro ⟨m13, v9⟩ h
  replace h : m_slices_IndexFunc_l1 n s_ m13 v9 = some r := h
  rcases m13 with _ | m13
  · rw [m_slices_IndexFunc_l1] at h; cases h
  rw [m_slices_IndexFunc_l1] at h
  refine aw_seq ?_
  refine aw_region ?_
  refine awl_val hτ rfl rfl rfl ?_
  refine awl_nil ?_
  refine aw_seq ?_
  refine aw_cond rfl (fun hc15 => ?_) (fun hc15 => ?_)
  · have h := if_t h hc15
    refine aw_skip ?_
    refine aw_seq ?_
    refine aw_block ?_
    refine aw_seq ?_
    refine aw_region ?_
    refine awl_val hτ rfl rfl rfl ?_
    refine awl_val hτ rfl rfl rfl ?_
    refine awl_nil ?_
    refine aw_seq ?_
    refine aw_region ?_
    refine awl_val hτ rfl rfl rfl ?_
    refine awl_val hτ rfl rfl rfl ?_
    refine awl_val hτ rfl rfl rfl ?_
    refine bnd_elim h fun x18 hx18 h => ?_
    refine awl_elem hτ rfl rfl rfl (getI_some hx18).1 (map_getI hx18) rfl ?_
    refine awl_val hτ rfl rfl rfl ?_
    refine bnd_elim h fun x19 hx19 h => ?_
    refine awl_callP hτ false [] rfl rfl rfl (enterOk func98 rfl rfl) rfl rfl (by simp) ⟨trivial, trivial⟩ (by repeat' first | exact trivial | refine ⟨?_, ?_⟩) (impl_finite_1_ok n x18 hx19) ?_
    rintro r0 o0 n0 ⟨rfl, rfl, rfl⟩ -
    refine awl_nil ?_
    refine aw_weak (weak_ofP [] (l := [(0, .d (.sl false (s_.map eNatf32))), (1, .func 98 [] []), (5, .d (.int .i64 v9)), (7, .d (.int .i64 (s_.length : Int))), (8, .d (.int .i64 v9)), (16, .d (.bool x19))]) (objs := []) rfl (by simp) rfl (by repeat' first | exact trivial | refine ⟨?_, ?_⟩) ⟨rfl, trivial, rfl, (by repeat' first | exact trivial | refine ⟨?_, ?_⟩), rfl, trivial, rfl, trivial, rfl, trivial, rfl, trivial, trivial⟩) ?_
    refine aw_cond rfl (fun hc20 => ?_) (fun hc20 => ?_)
    · have h := if_bt h hc20
      refine aw_seq ?_
      refine aw_region ?_
      refine awl_val hτ rfl rfl rfl ?_
      refine awl_val hτ rfl rfl rfl ?_
      refine awl_nil ?_
      refine aw_weak (weak_ofP [] (l := [(4, .d (.int .i64 v9))]) (objs := []) rfl (by simp) rfl (by repeat' first | exact trivial | refine ⟨?_, ?_⟩) ⟨rfl, trivial, trivial⟩) ?_
      refine aw_ret ?_
      have hr := Option.some.inj h
      subst hr
      exact ret_objs (.inr rfl) [] (objs' := []) (new := []) rfl (by simp) (by simp) rfl (by repeat' first | exact trivial | refine ⟨?_, ?_⟩) rfl rfl (by repeat' first | exact trivial | refine ⟨?_, ?_⟩) (fun _ => ⟨by simp [V.flat, V.flatA, V.flatC, D.flat], flat_nil⟩) ⟨rfl, rfl, rfl⟩
    · have h := if_bf h hc20
      refine aw_skip ?_
      refine aw_region ?_
      refine awl_val hτ rfl rfl rfl ?_
      refine awl_val hτ rfl rfl rfl ?_
      refine awl_nil ?_
      exact ⟨(m13, (w64 (v9 + (1 : Int)))), h, Nat.lt_succ_self m13, (weak_ofP [] (l := [(0, .d (.sl false (s_.map eNatf32))), (1, .func 98 [] []), (7, .d (.int .i64 (s_.length : Int))), (8, .d (.int .i64 (w64 (v9 + (1 : Int)))))]) (objs := []) rfl (by simp) rfl (by repeat' first | exact trivial | refine ⟨?_, ?_⟩) ⟨rfl, trivial, rfl, (by repeat' first | exact trivial | refine ⟨?_, ?_⟩), rfl, trivial, rfl, trivial, trivial⟩)⟩
  · have h := if_f h hc15
    refine aw_exit ?_
    refine aw_seq ?_
    refine aw_region ?_
    refine awl_val hτ rfl rfl rfl ?_
    refine awl_nil ?_
    refine aw_weak (weak_ofP [] (l := [(4, .d (.int .i64 (-1 : Int)))]) (objs := []) rfl (by simp) rfl (by repeat' first | exact trivial | refine ⟨?_, ?_⟩) ⟨rfl, trivial, trivial⟩) ?_
    refine aw_ret ?_
    have hr := Option.some.inj h
    subst hr
    exact ret_objs (.inr rfl) [] (objs' := []) (new := []) rfl (by simp) (by simp) rfl (by repeat' first | exact trivial | refine ⟨?_, ?_⟩) rfl rfl (by repeat' first | exact trivial | refine ⟨?_, ?_⟩) (fun _ => ⟨by simp [V.flat, V.flatA, V.flatC, D.flat], flat_nil⟩) ⟨rfl, rfl, rfl⟩
theorem slices_IndexFunc_ok (n : Nat) (s_ : List Nat) {r : Int} (h : m_slices_IndexFunc n s_ = some r) : ACall prog false 120 [.d (.sl false (s_.map eNatf32)), .func 98 [] []] [] (fun v o new => v = .d (.int .i64 r) ∧ o = [] ∧ new = []) := slices_IndexFunc_ok_fr0 false n s_ h
theorem slices_IndexFunc_ok_fr (n : Nat) (s_ : List Nat) {r : Int} (h : m_slices_IndexFunc n s_ = some r) : ACall prog true 120 [.d (.sl false (s_.map eNatf32)), .func 98 [] []] [] (fun v o new => v = .d (.int .i64 r) ∧ o = [] ∧ new = []) := slices_IndexFunc_ok_fr0 true n s_ h

def m_slices_ContainsFunc (n : Nat) (s_ : List Nat) : Option Bool :=
  (m_slices_IndexFunc n s_).bind fun x2 =>
  some (decide (x2 ≥ (0 : Int)))
theorem slices_ContainsFunc_ok_fr0 (fr : Bool) (n : Nat) (s_ : List Nat) {r : Bool} (h : m_slices_ContainsFunc n s_ = some r) : ACall prog fr 97 [.d (.sl false (s_.map eNatf32)), .func 98 [] []] [] (fun v o new => v = .d (.bool r) ∧ o = [] ∧ new = []) := by
  refine acall_of_aw hτ func97 rfl (by simp) (by simp) ?_
  unfold m_slices_ContainsFunc at h
  refine aw_seq ?_
  refine aw_region ?_
  refine awl_val hτ rfl rfl rfl ?_
  refine awl_nil ?_
  refine aw_seq ?_
  refine aw_region ?_
  refine awl_val hτ rfl rfl rfl ?_
  refine awl_val hτ rfl rfl rfl ?_
  refine bnd_elim h fun x2 hx2 h => ?_
  refine awl_callP hτ false [] rfl rfl rfl (enterOk func120 rfl rfl) rfl rfl (by simp) ⟨trivial, (by repeat' first | exact trivial | refine ⟨?_, ?_⟩), trivial⟩ (by repeat' first | exact trivial | refine ⟨?_, ?_⟩) (slices_IndexFunc_ok n s_ hx2) ?_
  rintro r0 o0 n0 ⟨rfl, rfl, rfl⟩ -
  refine awl_val hτ rfl rfl rfl ?_
  refine awl_val hτ rfl rfl rfl ?_
  refine awl_nil ?_
  refine aw_weak (weak_ofP [] (l := [(4, .d (.bool (decide (x2 ≥ (0 : Int)))))]) (objs := []) rfl (by simp) rfl (by repeat' first | exact trivial | refine ⟨?_, ?_⟩) ⟨rfl, trivial, trivial⟩) ?_
  refine aw_ret ?_
  have hr := Option.some.inj h
  subst hr
  exact ret_objs (.inr rfl) [] (objs' := []) (new := []) rfl (by simp) (by simp) rfl (by repeat' first | exact trivial | refine ⟨?_, ?_⟩) rfl rfl (by repeat' first | exact trivial | refine ⟨?_, ?_⟩) (fun _ => ⟨by simp [V.flat, V.flatA, V.flatC, D.flat], flat_nil⟩) ⟨rfl, rfl, rfl⟩
theorem slices_ContainsFunc_ok (n : Nat) (s_ : List Nat) {r : Bool} (h : m_slices_ContainsFunc n s_ = some r) : ACall prog false 97 [.d (.sl false (s_.map eNatf32)), .func 98 [] []] [] (fun v o new => v = .d (.bool r) ∧ o = [] ∧ new = []) := slices_ContainsFunc_ok_fr0 false n s_ h
theorem slices_ContainsFunc_ok_fr (n : Nat) (s_ : List Nat) {r : Bool} (h : m_slices_ContainsFunc n s_ = some r) : ACall prog true 97 [.d (.sl false (s_.map eNatf32)), .func 98 [] []] [] (fun v o new => v = .d (.bool r) ∧ o = [] ∧ new = []) := slices_ContainsFunc_ok_fr0 true n s_ h

def m_impl_finite (n : Nat) (list_ : List Nat) : Option Bool :=
  (m_slices_ContainsFunc n list_).bind fun x2 =>
  some (!x2)
theorem impl_finite_ok_fr0 (fr : Bool) (n : Nat) (list_ : List Nat) {r : Bool} (h : m_impl_finite n list_ = some r) : ACall prog fr 67 [.d (.sl false (list_.map eNatf32))] [] (fun v o new => v = .d (.bool r) ∧ o = [] ∧ new = []) := by
  refine acall_of_aw hτ func67 rfl (by simp) (by simp) ?_
  unfold m_impl_finite at h
  refine aw_seq ?_
  refine aw_region ?_
  refine awl_val hτ rfl rfl rfl ?_
  refine awl_nil ?_
  refine aw_seq ?_
  refine aw_region ?_
  refine awl_val hτ rfl rfl rfl ?_
  refine bnd_elim h fun x2 hx2 h => ?_
  refine awl_callP hτ false [] rfl rfl rfl (enterOk func97 rfl rfl) rfl rfl (by simp) ⟨trivial, (by repeat' first | exact trivial | refine ⟨?_, ?_⟩), trivial⟩ (by repeat' first | exact trivial | refine ⟨?_, ?_⟩) (slices_ContainsFunc_ok n list_ hx2) ?_
  rintro r0 o0 n0 ⟨rfl, rfl, rfl⟩ -
  refine awl_val hτ rfl rfl rfl ?_
  refine awl_val hτ rfl rfl rfl ?_
  refine awl_nil ?_
  refine aw_weak (weak_ofP [] (l := [(2, .d (.bool (!x2)))]) (objs := []) rfl (by simp) rfl (by repeat' first | exact trivial | refine ⟨?_, ?_⟩) ⟨rfl, trivial, trivial⟩) ?_
  refine aw_ret ?_
  have hr := Option.some.inj h
  subst hr
  exact ret_objs (.inr rfl) [] (objs' := []) (new := []) rfl (by simp) (by simp) rfl (by repeat' first | exact trivial | refine ⟨?_, ?_⟩) rfl rfl (by repeat' first | exact trivial | refine ⟨?_, ?_⟩) (fun _ => ⟨by simp [V.flat, V.flatA, V.flatC, D.flat], flat_nil⟩) ⟨rfl, rfl, rfl⟩
theorem impl_finite_ok (n : Nat) (list_ : List Nat) {r : Bool} (h : m_impl_finite n list_ = some r) : ACall prog false 67 [.d (.sl false (list_.map eNatf32))] [] (fun v o new => v = .d (.bool r) ∧ o = [] ∧ new = []) := impl_finite_ok_fr0 false n list_ h
theorem impl_finite_ok_fr (n : Nat) (list_ : List Nat) {r : Bool} (h : m_impl_finite n list_ = some r) : ACall prog true 67 [.d (.sl false (list_.map eNatf32))] [] (fun v o new => v = .d (.bool r) ∧ o = [] ∧ new = []) := impl_finite_ok_fr0 true n list_ h

def m_impl_IsFiniteComplex (n : Nat) (x_ : Cx) : Option Bool :=
  (m_impl_finite n [x_.re, x_.im]).bind fun x2 =>
  some x2
theorem impl_IsFiniteComplex_ok_fr0 (fr : Bool) (n : Nat) (x_ : Cx) {r : Bool} (h : m_impl_IsFiniteComplex n x_ = some r) : ACall prog fr 27 [.d (.cx .f32 x_.re x_.im)] [] (fun v o new => v = .d (.bool r) ∧ o = [] ∧ new = []) := by
  refine acall_of_aw hτ func27 rfl (by simp) (by simp) ?_
  unfold m_impl_IsFiniteComplex at h
  refine aw_seq ?_
  refine aw_region ?_
  refine awl_val hτ rfl rfl rfl ?_
  refine awl_nil ?_
  refine aw_seq ?_
  refine aw_region ?_
  refine awl_val hτ rfl rfl rfl ?_
  refine awl_val hτ rfl rfl rfl ?_
  refine awl_val hτ rfl rfl rfl ?_
  refine awl_val hτ rfl rfl rfl ?_
  refine awl_valH hτ rfl rfl rfl ?_
  refine awl_weak (weak_ofP [0] (l := [(2, .d (.bool false)), (7, .row 0 ([x_.re, x_.im].length) 0 ([x_.re, x_.im].length))]) (objs := [.row 1 ([x_.re, x_.im].map eNatf32)]) rfl (by simp) rfl (by repeat' first | exact trivial | refine ⟨?_, ?_⟩) ⟨rfl, trivial, rfl, trivial, trivial⟩) ?_
  refine bnd_elim h fun x2 hx2 h => ?_
  refine awl_callP hτ true [] rfl rfl rfl (enterOk func67 rfl rfl) (mapO_cons (exV_view (f := eNatf32) [x_.re, x_.im] rfl rfl rfl) mapO_nil) rfl (by simp) ⟨(exVP_view (f := eNatf32) [x_.re, x_.im] rfl rfl rfl), trivial⟩ (by repeat' first | exact trivial | refine ⟨?_, ?_⟩) (impl_finite_ok_fr n [x_.re, x_.im] hx2) ?_
  rintro r0 o0 n0 ⟨rfl, rfl, rfl⟩ -
  refine awl_val hτ rfl rfl rfl ?_
  refine awl_nil ?_
  refine aw_weak (weak_ofP [] (l := [(2, .d (.bool x2))]) (objs := []) rfl (by simp) rfl (by repeat' first | exact trivial | refine ⟨?_, ?_⟩) ⟨rfl, trivial, trivial⟩) ?_
  refine aw_ret ?_
  have hr := Option.some.inj h
  subst hr
  exact ret_objs (.inr rfl) [] (objs' := []) (new := []) rfl (by simp) (by simp) rfl (by repeat' first | exact trivial | refine ⟨?_, ?_⟩) rfl rfl (by repeat' first | exact trivial | refine ⟨?_, ?_⟩) (fun _ => ⟨by simp [V.flat, V.flatA, V.flatC, D.flat], flat_nil⟩) ⟨rfl, rfl, rfl⟩
theorem impl_IsFiniteComplex_ok (n : Nat) (x_ : Cx) {r : Bool} (h : m_impl_IsFiniteComplex n x_ = some r) : ACall prog false 27 [.d (.cx .f32 x_.re x_.im)] [] (fun v o new => v = .d (.bool r) ∧ o = [] ∧ new = []) := impl_IsFiniteComplex_ok_fr0 false n x_ h
theorem impl_IsFiniteComplex_ok_fr (n : Nat) (x_ : Cx) {r : Bool} (h : m_impl_IsFiniteComplex n x_ = some r) : ACall prog true 27 [.d (.cx .f32 x_.re x_.im)] [] (fun v o new => v = .d (.bool r) ∧ o = [] ∧ new = []) := impl_IsFiniteComplex_ok_fr0 true n x_ h

def m_spec_l01Finite (n : Nat) (x_ : Nat) : Option Bool :=
  some (fcmp .eql .f32 (farith .sub .f32 x_ x_) (0 : Nat))
theorem spec_l01Finite_ok_fr0 (fr : Bool) (n : Nat) (x_ : Nat) {r : Bool} (h : m_spec_l01Finite n x_ = some r) : ACall prog fr 68 [.d (.fl .f32 x_)] [] (fun v o new => v = .d (.bool r) ∧ o = [] ∧ new = []) := by
  refine acall_of_aw hτ func68 rfl (by simp) (by simp) ?_
  unfold m_spec_l01Finite at h
  refine aw_seq ?_
  refine aw_region ?_
  refine awl_val hτ rfl rfl rfl ?_
  refine awl_nil ?_
  refine aw_seq ?_
  refine aw_region ?_
  refine awl_val hτ rfl rfl rfl ?_
  refine awl_val hτ rfl rfl rfl ?_
  refine awl_val hτ rfl rfl rfl ?_
  refine awl_val hτ rfl rfl rfl ?_
  refine awl_val hτ rfl rfl rfl ?_
  refine awl_nil ?_
  refine aw_weak (weak_ofP [] (l := [(2, .d (.bool (fcmp .eql .f32 (farith .sub .f32 x_ x_) (0 : Nat))))]) (objs := []) rfl (by simp) rfl (by repeat' first | exact trivial | refine ⟨?_, ?_⟩) ⟨rfl, trivial, trivial⟩) ?_
  refine aw_ret ?_
  have hr := Option.some.inj h
  subst hr
  exact ret_objs (.inr rfl) [] (objs' := []) (new := []) rfl (by simp) (by simp) rfl (by repeat' first | exact trivial | refine ⟨?_, ?_⟩) rfl rfl (by repeat' first | exact trivial | refine ⟨?_, ?_⟩) (fun _ => ⟨by simp [V.flat, V.flatA, V.flatC, D.flat], flat_nil⟩) ⟨rfl, rfl, rfl⟩
theorem spec_l01Finite_ok (n : Nat) (x_ : Nat) {r : Bool} (h : m_spec_l01Finite n x_ = some r) : ACall prog false 68 [.d (.fl .f32 x_)] [] (fun v o new => v = .d (.bool r) ∧ o = [] ∧ new = []) := spec_l01Finite_ok_fr0 false n x_ h
theorem spec_l01Finite_ok_fr (n : Nat) (x_ : Nat) {r : Bool} (h : m_spec_l01Finite n x_ = some r) : ACall prog true 68 [.d (.fl .f32 x_)] [] (fun v o new => v = .d (.bool r) ∧ o = [] ∧ new = []) := spec_l01Finite_ok_fr0 true n x_ h

def m_spec_IsFinite (n : Nat) (x_ : Nat) : Option Bool :=
  (m_spec_l01Finite n x_).bind fun x2 =>
  some x2
theorem spec_IsFinite_ok_fr0 (fr : Bool) (n : Nat) (x_ : Nat) {r : Bool} (h : m_spec_IsFinite n x_ = some r) : ACall prog fr 28 [.d (.fl .f32 x_)] [] (fun v o new => v = .d (.bool r) ∧ o = [] ∧ new = []) := by
  refine acall_of_aw hτ func28 rfl (by simp) (by simp) ?_
  unfold m_spec_IsFinite at h
  refine aw_seq ?_
  refine aw_region ?_
  refine awl_val hτ rfl rfl rfl ?_
  refine awl_nil ?_
  refine aw_seq ?_
  refine aw_region ?_
  refine awl_val hτ rfl rfl rfl ?_
  refine bnd_elim h fun x2 hx2 h => ?_
  refine awl_callP hτ false [] rfl rfl rfl (enterOk func68 rfl rfl) rfl rfl (by simp) ⟨trivial, trivial⟩ (by repeat' first | exact trivial | refine ⟨?_, ?_⟩) (spec_l01Finite_ok n x_ hx2) ?_
  rintro r0 o0 n0 ⟨rfl, rfl, rfl⟩ -
  refine awl_val hτ rfl rfl rfl ?_
  refine awl_nil ?_
  refine aw_weak (weak_ofP [] (l := [(2, .d (.bool x2))]) (objs := []) rfl (by simp) rfl (by repeat' first | exact trivial | refine ⟨?_, ?_⟩) ⟨rfl, trivial, trivial⟩) ?_
  refine aw_ret ?_
  have hr := Option.some.inj h
  subst hr
  exact ret_objs (.inr rfl) [] (objs' := []) (new := []) rfl (by simp) (by simp) rfl (by repeat' first | exact trivial | refine ⟨?_, ?_⟩) rfl rfl (by repeat' first | exact trivial | refine ⟨?_, ?_⟩) (fun _ => ⟨by simp [V.flat, V.flatA, V.flatC, D.flat], flat_nil⟩) ⟨rfl, rfl, rfl⟩
theorem spec_IsFinite_ok (n : Nat) (x_ : Nat) {r : Bool} (h : m_spec_IsFinite n x_ = some r) : ACall prog false 28 [.d (.fl .f32 x_)] [] (fun v o new => v = .d (.bool r) ∧ o = [] ∧ new = []) := spec_IsFinite_ok_fr0 false n x_ h
theorem spec_IsFinite_ok_fr (n : Nat) (x_ : Nat) {r : Bool} (h : m_spec_IsFinite n x_ = some r) : ACall prog true 28 [.d (.fl .f32 x_)] [] (fun v o new => v = .d (.bool r) ∧ o = [] ∧ new = []) := spec_IsFinite_ok_fr0 true n x_ h

def m_laws_FnProducts_j2 (n : Nat) (code_ : List Int) (more_ : List Int) : Option Bool :=
  (m_laws_b10At n code_ (0 : Int) (9 : Int)).bind fun x113 =>
  (m_spec_B10Any n more_ x113).bind fun x114 =>
  (m_impl_ComplexText n x114).bind fun x115 =>
  (m_impl_ReadComplex n x115.1).bind fun x116 =>
  (m_spec_B10Number n code_).bind fun x117 =>
  (m_impl_BitsOf n x117).bind fun x118 =>
  (m_impl_FromBits n x118).bind fun x119 =>
  (m_spec_B10Complex n code_).bind fun x120 =>
  (fconv .f32 .f64 x120.re).bind fun x121 =>
  (fconv .f32 .f64 x120.im).bind fun x122 =>
  if x115.2 = true then
    if x116.2 = true then
      if x119.2 = true then
        (m_laws_b10Same n x116.1 x114).bind fun x126 =>
        if x126 = true then
          (m_spec_SameNumber n x119.1 x117).bind fun x128 =>
          if x128 = true then
            (m_impl_NarrowComplex n (Cx.mk x121 x122)).bind fun x130 =>
            (m_impl_SameComplex n x130 x120).bind fun x131 =>
            if x131 = true then
              (m_impl_ConjugateOf n x120).bind fun x133 =>
              (m_impl_ConjugateOf n x133).bind fun x134 =>
              (m_impl_SameComplex n x134 x120).bind fun x135 =>
              if x135 = true then
                (m_impl_IsFiniteComplex n x120).bind fun x137 =>
                (m_spec_IsFinite n x120.re).bind fun x138 =>
                if x138 = true then
                  (m_spec_IsFinite n x120.im).bind fun x140 =>
                  some (x137 == x140)
                else
                  some (x137 == false)
              else
                some false
            else
              some false
          else
            some false
        else
          some false
      else
        some false
    else
      some false
  else
    some false
def m_laws_FnProducts_j3 (n : Nat) (code_ : List Int) (more_ : List Int) (v149 : Bool) : Option Bool :=
  if v149 = true then
    some false
  else
    m_laws_FnProducts_j2 n code_ more_
def m_laws_FnProducts_j1 (n : Nat) (code_ : List Int) (more_ : List Int) (x78 : Cx) (x80 : Cx) (x81 : Cx) : Option Bool :=
  if (fcmp .eql .f32 x80.re (0 : Nat) && fcmp .eql .f32 x80.im (0 : Nat)) = true then
    (m_impl_ScaleComplex n x78 (1073741824 : Nat)).bind fun x156 =>
    m_laws_FnProducts_j3 n code_ more_ (!(fcmp .eql .f32 x156.re (farith .add .f32 x78.re x78.re) && fcmp .eql .f32 x156.im (farith .add .f32 x78.im x78.im)))
  else
    (m_impl_QuotientOf n x81 x80).bind fun x153 =>
    if (fcmp .eql .f32 x153.re x78.re && fcmp .eql .f32 x153.im x78.im) = true then
      (m_impl_ScaleComplex n x78 (1073741824 : Nat)).bind fun x155 =>
      m_laws_FnProducts_j3 n code_ more_ (!(fcmp .eql .f32 x155.re (farith .add .f32 x78.re x78.re) && fcmp .eql .f32 x155.im (farith .add .f32 x78.im x78.im)))
    else
      m_laws_FnProducts_j3 n code_ more_ true
def m_laws_FnProducts_j4 (n : Nat) (code_ : List Int) (more_ : List Int) (x78 : Cx) (x80 : Cx) (x81 : Cx) (v170 : Bool) : Option Bool :=
  if v170 = true then
    some false
  else
    m_laws_FnProducts_j1 n code_ more_ x78 x80 x81
def m_laws_FnProducts (n : Nat) (code_ : List Int) (more_ : List Int) : Option Bool :=
  (m_laws_b10Long n code_ more_).bind fun x75 =>
  if x75 = true then
    some true
  else
    (m_spec_B10Whole n code_ (1 : Int) (200 : Int)).bind fun x77 =>
    (getI x77 (0 : Int)).bind fun x78 =>
    (m_spec_B10Whole n more_ (1 : Int) (200 : Int)).bind fun x79 =>
    (getI x79 (0 : Int)).bind fun x80 =>
    (m_impl_MulComplex n x78 x80).bind fun x81 =>
    (f2i .f32 .i64 x78.re).bind fun x82 =>
    (f2i .f32 .i64 x80.re).bind fun x83 =>
    (f2i .f32 .i64 x78.im).bind fun x84 =>
    (f2i .f32 .i64 x80.im).bind fun x85 =>
    (f2i .f32 .i64 x78.re).bind fun x86 =>
    (f2i .f32 .i64 x80.im).bind fun x87 =>
    (f2i .f32 .i64 x78.im).bind fun x88 =>
    (f2i .f32 .i64 x80.re).bind fun x89 =>
    (f2i .f32 .i64 x78.re).bind fun x90 =>
    (f2i .f32 .i64 x78.re).bind fun x91 =>
    (f2i .f32 .i64 x78.im).bind fun x92 =>
    (f2i .f32 .i64 x78.im).bind fun x93 =>
    if (fcmp .eql .f32 x81.re (FloatKind.nearest .f32 (w64 ((w64 (x82 * x83)) - (w64 (x84 * x85))))) && fcmp .eql .f32 x81.im (FloatKind.nearest .f32 (w64 ((w64 (x86 * x87)) + (w64 (x88 * x89)))))) = true then
      (m_impl_MulComplex n x80 x78).bind fun x174 =>
      if (fcmp .eql .f32 x174.re x81.re && fcmp .eql .f32 x174.im x81.im) = true then
        (m_impl_PowerOf n x78).bind fun x176 =>
        if (fcmp .neq .f32 x176 (FloatKind.nearest .f32 (w64 ((w64 (x90 * x91)) + (w64 (x92 * x93)))))) = true then
          m_laws_FnProducts_j4 n code_ more_ x78 x80 x81 true
        else
          (m_impl_ConjugateOf n x78).bind fun x178 =>
          (m_impl_MulComplex n x78 x178).bind fun x179 =>
          if (fcmp .eql .f32 x179.re (FloatKind.nearest .f32 (w64 ((w64 (x90 * x91)) + (w64 (x92 * x93))))) && fcmp .eql .f32 x179.im (0 : Nat)) = true then
            (m_impl_LongOf n x78).bind fun x181 =>
            (m_spec_RootNumber n (FloatKind.nearest .f32 (w64 ((w64 (x90 * x91)) + (w64 (x92 * x93)))))).bind fun x182 =>
            (m_spec_SameNumber n x181 x182).bind fun x183 =>
            m_laws_FnProducts_j4 n code_ more_ x78 x80 x81 (!x183)
          else
            m_laws_FnProducts_j4 n code_ more_ x78 x80 x81 true
      else
        m_laws_FnProducts_j4 n code_ more_ x78 x80 x81 true
    else
      m_laws_FnProducts_j4 n code_ more_ x78 x80 x81 true
theorem laws_FnProducts_ok_fr0 (fr : Bool) (n : Nat) (code_ : List Int) (more_ : List Int) {r : Bool} (h : m_laws_FnProducts n code_ more_ = some r) : ACall prog fr 3 [.d (.sl false (code_.map eIntu8)), .d (.sl false (more_.map eIntu8))] [] (fun v o new => v = .d (.bool r) ∧ o = [] ∧ new = []) := by
  refine acall_of_aw hτ func3 rfl (by simp) (by simp) ?_
  unfold m_laws_FnProducts at h
  refine aw_seq ?_
  refine aw_region ?_
  refine awl_val hτ rfl rfl rfl ?_
  refine awl_nil ?_
  refine aw_seq ?_
  refine aw_seq ?_
  refine aw_region ?_
  refine awl_val hτ rfl rfl rfl ?_
  refine awl_val hτ rfl rfl rfl ?_
  refine bnd_elim h fun x75 hx75 h => ?_
  refine awl_callP hτ false [] rfl rfl rfl (enterOk func6 rfl rfl) rfl rfl (by simp) ⟨trivial, trivial, trivial⟩ (by repeat' first | exact trivial | refine ⟨?_, ?_⟩) (laws_b10Long_ok n code_ more_ hx75) ?_
  rintro r0 o0 n0 ⟨rfl, rfl, rfl⟩ -
  refine awl_nil ?_
  refine aw_cond rfl (fun hc76 => ?_) (fun hc76 => ?_)
  · have h := if_bt h hc76
    refine aw_seq ?_
    refine aw_region ?_
    refine awl_val hτ rfl rfl rfl ?_
    refine awl_nil ?_
    refine aw_weak (weak_ofP [] (l := [(4, .d (.bool true))]) (objs := []) rfl (by simp) rfl (by repeat' first | exact trivial | refine ⟨?_, ?_⟩) ⟨rfl, trivial, trivial⟩) ?_
    refine aw_ret ?_
    have hr := Option.some.inj h
    subst hr
    exact ret_objs (.inr rfl) [] (objs' := []) (new := []) rfl (by simp) (by simp) rfl (by repeat' first | exact trivial | refine ⟨?_, ?_⟩) rfl rfl (by repeat' first | exact trivial | refine ⟨?_, ?_⟩) (fun _ => ⟨by simp [V.flat, V.flatA, V.flatC, D.flat], flat_nil⟩) ⟨rfl, rfl, rfl⟩
  · have h := if_bf h hc76
    refine aw_skip ?_
    refine aw_seq ?_
    refine aw_region ?_
    refine awl_val hτ rfl rfl rfl ?_
    refine bnd_elim h fun x77 hx77 h => ?_
    refine awl_callP hτ false [] rfl rfl rfl (enterOk func7 rfl rfl) rfl rfl (by simp) ⟨trivial, trivial, trivial, trivial⟩ (by repeat' first | exact trivial | refine ⟨?_, ?_⟩) (spec_B10Whole_ok n code_ (1 : Int) (200 : Int) hx77) ?_
    rintro r0 o0 n0 ⟨rfl, rfl, rfl⟩ -
    refine bnd_elim h fun x78 hx78 h => ?_
    refine awl_need hτ rfl rfl rfl (row_need hx78) ?_
    refine awl_elem hτ rfl rfl rfl (len_map _) (row_get hx78) rfl ?_
    refine awl_val hτ rfl rfl rfl ?_
    refine awl_nil ?_
    refine aw_seq ?_
    refine aw_weak (weak_ofP [] (l := [(0, .d (.sl false (code_.map eIntu8))), (1, .d (.sl false (more_.map eIntu8))), (5, .d (.cx .f32 x78.re x78.im))]) (objs := []) rfl (by simp) rfl (by repeat' first | exact trivial | refine ⟨?_, ?_⟩) ⟨rfl, trivial, rfl, trivial, rfl, trivial, trivial⟩) ?_
    refine aw_region ?_
    refine awl_val hτ rfl rfl rfl ?_
    refine bnd_elim h fun x79 hx79 h => ?_
    refine awl_callP hτ false [] rfl rfl rfl (enterOk func7 rfl rfl) rfl rfl (by simp) ⟨trivial, trivial, trivial, trivial⟩ (by repeat' first | exact trivial | refine ⟨?_, ?_⟩) (spec_B10Whole_ok n more_ (1 : Int) (200 : Int) hx79) ?_
    rintro r0 o0 n0 ⟨rfl, rfl, rfl⟩ -
    refine bnd_elim h fun x80 hx80 h => ?_
    refine awl_need hτ rfl rfl rfl (row_need hx80) ?_
    refine awl_elem hτ rfl rfl rfl (len_map _) (row_get hx80) rfl ?_
    refine awl_val hτ rfl rfl rfl ?_
    refine awl_nil ?_
    refine aw_seq ?_
    refine aw_region ?_
    refine awl_val hτ rfl rfl rfl ?_
    refine awl_val hτ rfl rfl rfl ?_
    refine bnd_elim h fun x81 hx81 h => ?_
    refine awl_callP hτ false [] rfl rfl rfl (enterOk func8 rfl rfl) rfl rfl (by simp) ⟨trivial, trivial, trivial⟩ (by repeat' first | exact trivial | refine ⟨?_, ?_⟩) (impl_MulComplex_ok n x78 x80 hx81) ?_
    rintro r0 o0 n0 ⟨rfl, rfl, rfl⟩ -
    refine awl_val hτ rfl rfl rfl ?_
    refine awl_nil ?_
    refine aw_seq ?_
    refine aw_weak (weak_ofP [] (l := [(0, .d (.sl false (code_.map eIntu8))), (1, .d (.sl false (more_.map eIntu8))), (5, .d (.cx .f32 x78.re x78.im)), (6, .d (.cx .f32 x80.re x80.im)), (7, .d (.cx .f32 x81.re x81.im))]) (objs := []) rfl (by simp) rfl (by repeat' first | exact trivial | refine ⟨?_, ?_⟩) ⟨rfl, trivial, rfl, trivial, rfl, trivial, rfl, trivial, rfl, trivial, trivial⟩) ?_
    refine aw_region ?_
    refine awl_val hτ rfl rfl rfl ?_
    refine awl_val hτ rfl rfl rfl ?_
    refine bnd_elim h fun x82 hx82 h => ?_
    refine awl_x rfl rfl (x_f2i hτ rfl rfl rfl rfl rfl rfl hx82) ?_
    refine awl_val hτ rfl rfl rfl ?_
    refine awl_val hτ rfl rfl rfl ?_
    refine bnd_elim h fun x83 hx83 h => ?_
    refine awl_x rfl rfl (x_f2i hτ rfl rfl rfl rfl rfl rfl hx83) ?_
    refine awl_val hτ rfl rfl rfl ?_
    refine awl_val hτ rfl rfl rfl ?_
    refine awl_val hτ rfl rfl rfl ?_
    refine bnd_elim h fun x84 hx84 h => ?_
    refine awl_x rfl rfl (x_f2i hτ rfl rfl rfl rfl rfl rfl hx84) ?_
    refine awl_val hτ rfl rfl rfl ?_
    refine awl_val hτ rfl rfl rfl ?_
    refine awl_weak (weak_ofP [] (l := [(0, .d (.sl false (code_.map eIntu8))), (1, .d (.sl false (more_.map eIntu8))), (5, .d (.cx .f32 x78.re x78.im)), (6, .d (.cx .f32 x80.re x80.im)), (7, .d (.cx .f32 x81.re x81.im)), (41, .d (.int .i64 (w64 (x82 * x83)))), (44, .d (.int .i64 x84)), (46, .d (.fl .f32 x80.im))]) (objs := []) rfl (by simp) rfl (by repeat' first | exact trivial | refine ⟨?_, ?_⟩) ⟨rfl, trivial, rfl, trivial, rfl, trivial, rfl, trivial, rfl, trivial, rfl, trivial, rfl, trivial, rfl, trivial, trivial⟩) ?_
    refine bnd_elim h fun x85 hx85 h => ?_
    refine awl_x rfl rfl (x_f2i hτ rfl rfl rfl rfl rfl rfl hx85) ?_
    refine awl_val hτ rfl rfl rfl ?_
    refine awl_val hτ rfl rfl rfl ?_
    refine awl_val hτ rfl rfl rfl ?_
    refine awl_nil ?_
    refine aw_seq ?_
    refine aw_region ?_
    refine awl_val hτ rfl rfl rfl ?_
    refine awl_val hτ rfl rfl rfl ?_
    refine bnd_elim h fun x86 hx86 h => ?_
    refine awl_x rfl rfl (x_f2i hτ rfl rfl rfl rfl rfl rfl hx86) ?_
    refine awl_val hτ rfl rfl rfl ?_
    refine awl_val hτ rfl rfl rfl ?_
    refine bnd_elim h fun x87 hx87 h => ?_
    refine awl_x rfl rfl (x_f2i hτ rfl rfl rfl rfl rfl rfl hx87) ?_
    refine awl_val hτ rfl rfl rfl ?_
    refine awl_val hτ rfl rfl rfl ?_
    refine awl_weak (weak_ofP [] (l := [(0, .d (.sl false (code_.map eIntu8))), (1, .d (.sl false (more_.map eIntu8))), (5, .d (.cx .f32 x78.re x78.im)), (6, .d (.cx .f32 x80.re x80.im)), (7, .d (.cx .f32 x81.re x81.im)), (8, .d (.int .i64 (w64 ((w64 (x82 * x83)) - (w64 (x84 * x85)))))), (56, .d (.int .i64 (w64 (x86 * x87)))), (57, .d (.cx .f32 x78.re x78.im))]) (objs := []) rfl (by simp) rfl (by repeat' first | exact trivial | refine ⟨?_, ?_⟩) ⟨rfl, trivial, rfl, trivial, rfl, trivial, rfl, trivial, rfl, trivial, rfl, trivial, rfl, trivial, rfl, trivial, trivial⟩) ?_
    refine awl_val hτ rfl rfl rfl ?_
    refine bnd_elim h fun x88 hx88 h => ?_
    refine awl_x rfl rfl (x_f2i hτ rfl rfl rfl rfl rfl rfl hx88) ?_
    refine awl_val hτ rfl rfl rfl ?_
    refine awl_val hτ rfl rfl rfl ?_
    refine bnd_elim h fun x89 hx89 h => ?_
    refine awl_x rfl rfl (x_f2i hτ rfl rfl rfl rfl rfl rfl hx89) ?_
    refine awl_val hτ rfl rfl rfl ?_
    refine awl_val hτ rfl rfl rfl ?_
    refine awl_val hτ rfl rfl rfl ?_
    refine awl_nil ?_
    refine aw_seq ?_
    refine aw_weak (weak_ofP [] (l := [(0, .d (.sl false (code_.map eIntu8))), (1, .d (.sl false (more_.map eIntu8))), (5, .d (.cx .f32 x78.re x78.im)), (6, .d (.cx .f32 x80.re x80.im)), (7, .d (.cx .f32 x81.re x81.im)), (8, .d (.int .i64 (w64 ((w64 (x82 * x83)) - (w64 (x84 * x85)))))), (9, .d (.int .i64 (w64 ((w64 (x86 * x87)) + (w64 (x88 * x89))))))]) (objs := []) rfl (by simp) rfl (by repeat' first | exact trivial | refine ⟨?_, ?_⟩) ⟨rfl, trivial, rfl, trivial, rfl, trivial, rfl, trivial, rfl, trivial, rfl, trivial, rfl, trivial, trivial⟩) ?_
    refine aw_region ?_
    refine awl_val hτ rfl rfl rfl ?_
    refine awl_val hτ rfl rfl rfl ?_
    refine bnd_elim h fun x90 hx90 h => ?_
    refine awl_x rfl rfl (x_f2i hτ rfl rfl rfl rfl rfl rfl hx90) ?_
    refine awl_val hτ rfl rfl rfl ?_
    refine awl_val hτ rfl rfl rfl ?_
    refine bnd_elim h fun x91 hx91 h => ?_
    refine awl_x rfl rfl (x_f2i hτ rfl rfl rfl rfl rfl rfl hx91) ?_
    refine awl_val hτ rfl rfl rfl ?_
    refine awl_val hτ rfl rfl rfl ?_
    refine awl_val hτ rfl rfl rfl ?_
    refine bnd_elim h fun x92 hx92 h => ?_
    refine awl_x rfl rfl (x_f2i hτ rfl rfl rfl rfl rfl rfl hx92) ?_
    refine awl_val hτ rfl rfl rfl ?_
    refine awl_val hτ rfl rfl rfl ?_
    refine awl_weak (weak_ofP [] (l := [(0, .d (.sl false (code_.map eIntu8))), (1, .d (.sl false (more_.map eIntu8))), (5, .d (.cx .f32 x78.re x78.im)), (6, .d (.cx .f32 x80.re x80.im)), (7, .d (.cx .f32 x81.re x81.im)), (8, .d (.int .i64 (w64 ((w64 (x82 * x83)) - (w64 (x84 * x85)))))), (9, .d (.int .i64 (w64 ((w64 (x86 * x87)) + (w64 (x88 * x89)))))), (71, .d (.int .i64 (w64 (x90 * x91)))), (74, .d (.int .i64 x92)), (76, .d (.fl .f32 x78.im))]) (objs := []) rfl (by simp) rfl (by repeat' first | exact trivial | refine ⟨?_, ?_⟩) ⟨rfl, trivial, rfl, trivial, rfl, trivial, rfl, trivial, rfl, trivial, rfl, trivial, rfl, trivial, rfl, trivial, rfl, trivial, rfl, trivial, trivial⟩) ?_
    refine bnd_elim h fun x93 hx93 h => ?_
    refine awl_x rfl rfl (x_f2i hτ rfl rfl rfl rfl rfl rfl hx93) ?_
    refine awl_val hτ rfl rfl rfl ?_
    refine awl_val hτ rfl rfl rfl ?_
    refine awl_val hτ rfl rfl rfl ?_
    refine awl_nil ?_
    refine aw_hk1 (ι := Unit) (fun _ => St.of [(0, .d (.sl false (code_.map eIntu8))), (1, .d (.sl false (more_.map eIntu8))), (5, .d (.cx .f32 x78.re x78.im)), (6, .d (.cx .f32 x80.re x80.im)), (7, .d (.cx .f32 x81.re x81.im))] [] f3.ntmps 0) (fun _ => m_laws_FnProducts_j1 n code_ more_ x78 x80 x81 = some r) ?_ (fun hk157 => ?_)
    · rintro ⟨⟩ h
      replace h : m_laws_FnProducts_j1 n code_ more_ x78 x80 x81 = some r := h
      unfold m_laws_FnProducts_j1 at h
      refine aw_hk1 (ι := Unit) (fun _ => St.of [(0, .d (.sl false (code_.map eIntu8))), (1, .d (.sl false (more_.map eIntu8)))] [] f3.ntmps 0) (fun _ => m_laws_FnProducts_j2 n code_ more_ = some r) ?_ (fun hk141 => ?_)
      · rintro ⟨⟩ h
        replace h : m_laws_FnProducts_j2 n code_ more_ = some r := h
        unfold m_laws_FnProducts_j2 at h
        refine aw_seq ?_
        refine aw_region ?_
        refine awl_val hτ rfl rfl rfl ?_
        refine awl_val hτ rfl rfl rfl ?_
        refine bnd_elim h fun x113 hx113 h => ?_
        refine awl_callP hτ false [] rfl rfl rfl (enterOk func17 rfl rfl) rfl rfl (by simp) ⟨trivial, trivial, trivial, trivial⟩ (by repeat' first | exact trivial | refine ⟨?_, ?_⟩) (laws_b10At_ok n code_ (0 : Int) (9 : Int) hx113) ?_
        rintro r0 o0 n0 ⟨rfl, rfl, rfl⟩ -
        refine bnd_elim h fun x114 hx114 h => ?_
        refine awl_callP hτ false [] rfl rfl rfl (enterOk func16 rfl rfl) rfl rfl (by simp) ⟨trivial, trivial, trivial⟩ (by repeat' first | exact trivial | refine ⟨?_, ?_⟩) (spec_B10Any_ok n more_ x113 hx114) ?_
        rintro r0 o0 n0 ⟨rfl, rfl, rfl⟩ -
        refine awl_val hτ rfl rfl rfl ?_
        refine awl_nil ?_
        refine aw_seq ?_
        refine aw_region ?_
        refine awl_val hτ rfl rfl rfl ?_
        refine awl_weak (weak_ofP [0] (l := [(0, .d (.sl false (code_.map eIntu8))), (11, .row 0 x114.length 0 x114.length), (142, .row 0 x114.length 0 x114.length)]) (objs := [.row 1 (x114.map eCxf32)]) rfl (by simp) rfl (by repeat' first | exact trivial | refine ⟨?_, ?_⟩) ⟨rfl, trivial, rfl, trivial, rfl, trivial, trivial⟩) ?_
        refine bnd_elim h fun x115 hx115 h => ?_
        refine awl_callP hτ true [] rfl rfl rfl (enterOk func18 rfl rfl) (mapO_cons (exV_view (f := eCxf32) x114 rfl rfl rfl) mapO_nil) rfl (by simp) ⟨(exVP_view (f := eCxf32) x114 rfl rfl rfl), trivial⟩ (by repeat' first | exact trivial | refine ⟨?_, ?_⟩) (impl_ComplexText_ok_fr n x114 hx115) ?_
        rintro r0 o0 n0 ⟨rfl, rfl, rfl⟩ -
        refine awl_val hτ rfl rfl rfl ?_
        refine awl_val hτ rfl rfl rfl ?_
        refine awl_val hτ rfl rfl rfl ?_
        refine awl_val hτ rfl rfl rfl ?_
        refine awl_val hτ rfl rfl rfl ?_
        refine awl_nil ?_
        refine aw_seq ?_
        refine aw_weak (weak_ofP [0] (l := [(0, .d (.sl false (code_.map eIntu8))), (11, .row 0 x114.length 0 x114.length), (12, .d (.str (bstr x115.1))), (13, .d (.bool x115.2))]) (objs := [.row 1 (x114.map eCxf32)]) rfl (by simp) rfl (by repeat' first | exact trivial | refine ⟨?_, ?_⟩) ⟨rfl, trivial, rfl, trivial, rfl, trivial, rfl, trivial, trivial⟩) ?_
        refine aw_region ?_
        refine awl_val hτ rfl rfl rfl ?_
        refine bnd_elim h fun x116 hx116 h => ?_
        refine awl_callP hτ false [] rfl rfl rfl (enterOk func19 rfl rfl) rfl rfl (by simp) ⟨trivial, trivial⟩ (by repeat' first | exact trivial | refine ⟨?_, ?_⟩) (impl_ReadComplex_ok n x115.1 hx116) ?_
        rintro r0 o0 n0 ⟨rfl, rfl, rfl⟩ -
        refine awl_val hτ rfl rfl rfl ?_
        refine awl_val hτ rfl rfl rfl ?_
        refine awl_val hτ rfl rfl rfl ?_
        refine awl_val hτ rfl rfl rfl ?_
        refine awl_val hτ rfl rfl rfl ?_
        refine awl_nil ?_
        refine aw_seq ?_
        refine aw_weak (weak_ofP [0, 1] (l := [(0, .d (.sl false (code_.map eIntu8))), (11, .row 0 x114.length 0 x114.length), (13, .d (.bool x115.2)), (14, .row 1 x116.1.length 0 x116.1.length), (15, .d (.bool x116.2))]) (objs := [.row 1 (x114.map eCxf32), .row 1 (x116.1.map eCxf32)]) rfl (by simp) rfl (by repeat' first | exact trivial | refine ⟨?_, ?_⟩) ⟨rfl, trivial, rfl, trivial, rfl, trivial, rfl, trivial, rfl, trivial, trivial⟩) ?_
        refine aw_region ?_
        refine awl_val hτ rfl rfl rfl ?_
        refine bnd_elim h fun x117 hx117 h => ?_
        refine awl_callP hτ false [] rfl rfl rfl (enterOk func20 rfl rfl) rfl rfl (by simp) ⟨trivial, trivial⟩ (by repeat' first | exact trivial | refine ⟨?_, ?_⟩) (spec_B10Number_ok n code_ hx117) ?_
        rintro r0 o0 n0 ⟨rfl, rfl, rfl⟩ -
        refine awl_val hτ rfl rfl rfl ?_
        refine awl_nil ?_
        refine aw_seq ?_
        refine aw_region ?_
        refine awl_val hτ rfl rfl rfl ?_
        refine bnd_elim h fun x118 hx118 h => ?_
        refine awl_callP hτ false [] rfl rfl rfl (enterOk func22 rfl rfl) rfl rfl (by simp) ⟨trivial, trivial⟩ (by repeat' first | exact trivial | refine ⟨?_, ?_⟩) (impl_BitsOf_ok n x117 hx118) ?_
        rintro r0 o0 n0 ⟨rfl, rfl, rfl⟩ -
        refine bnd_elim h fun x119 hx119 h => ?_
        refine awl_callP hτ false [] rfl rfl rfl (enterOk func21 rfl rfl) rfl rfl (by simp) ⟨trivial, trivial⟩ (by repeat' first | exact trivial | refine ⟨?_, ?_⟩) (impl_FromBits_ok n x118 hx119) ?_
        rintro r0 o0 n0 ⟨rfl, rfl, rfl⟩ -
        refine awl_val hτ rfl rfl rfl ?_
        refine awl_val hτ rfl rfl rfl ?_
        refine awl_val hτ rfl rfl rfl ?_
        refine awl_val hτ rfl rfl rfl ?_
        refine awl_val hτ rfl rfl rfl ?_
        refine awl_nil ?_
        refine aw_seq ?_
        refine aw_weak (weak_ofP [0, 1] (l := [(0, .d (.sl false (code_.map eIntu8))), (11, .row 0 x114.length 0 x114.length), (13, .d (.bool x115.2)), (14, .row 1 x116.1.length 0 x116.1.length), (15, .d (.bool x116.2)), (16, .d (.fl .f32 x117)), (17, .d (.fl .f32 x119.1)), (18, .d (.bool x119.2))]) (objs := [.row 1 (x114.map eCxf32), .row 1 (x116.1.map eCxf32)]) rfl (by simp) rfl (by repeat' first | exact trivial | refine ⟨?_, ?_⟩) ⟨rfl, trivial, rfl, trivial, rfl, trivial, rfl, trivial, rfl, trivial, rfl, trivial, rfl, trivial, rfl, trivial, trivial⟩) ?_
        refine aw_region ?_
        refine awl_val hτ rfl rfl rfl ?_
        refine bnd_elim h fun x120 hx120 h => ?_
        refine awl_callP hτ false [] rfl rfl rfl (enterOk func23 rfl rfl) rfl rfl (by simp) ⟨trivial, trivial⟩ (by repeat' first | exact trivial | refine ⟨?_, ?_⟩) (spec_B10Complex_ok n code_ hx120) ?_
        rintro r0 o0 n0 ⟨rfl, rfl, rfl⟩ -
        refine awl_val hτ rfl rfl rfl ?_
        refine awl_nil ?_
        refine aw_seq ?_
        refine aw_region ?_
        refine awl_val hτ rfl rfl rfl ?_
        refine awl_val hτ rfl rfl rfl ?_
        refine bnd_elim h fun x121 hx121 h => ?_
        refine awl_val hτ (v := .d (.fl .f64 x121)) rfl rfl (conv_val hx121) ?_
        refine awl_val hτ rfl rfl rfl ?_
        refine awl_val hτ rfl rfl rfl ?_
        refine bnd_elim h fun x122 hx122 h => ?_
        refine awl_val hτ (v := .d (.fl .f64 x122)) rfl rfl (conv_val hx122) ?_
        refine awl_val hτ rfl rfl rfl ?_
        refine awl_val hτ rfl rfl rfl ?_
        refine awl_nil ?_
        refine aw_seq ?_
        refine aw_weak (weak_ofP [0, 1] (l := [(11, .row 0 x114.length 0 x114.length), (13, .d (.bool x115.2)), (14, .row 1 x116.1.length 0 x116.1.length), (15, .d (.bool x116.2)), (16, .d (.fl .f32 x117)), (17, .d (.fl .f32 x119.1)), (18, .d (.bool x119.2)), (19, .d (.cx .f32 x120.re x120.im)), (20, .d (.cx .f64 x121 x122))]) (objs := [.row 1 (x114.map eCxf32), .row 1 (x116.1.map eCxf32)]) rfl (by simp) rfl (by repeat' first | exact trivial | refine ⟨?_, ?_⟩) ⟨rfl, trivial, rfl, trivial, rfl, trivial, rfl, trivial, rfl, trivial, rfl, trivial, rfl, trivial, rfl, trivial, rfl, trivial, trivial⟩) ?_
        refine aw_region ?_
        refine awl_val hτ rfl rfl rfl ?_
        refine awl_val hτ rfl rfl rfl ?_
        refine awl_split 169 rfl (fun hb123 => ?_) (fun hb123 => ?_)
        · have h := if_bt h hb123
          refine awl_val hτ rfl rfl rfl ?_
          refine awl_val hτ rfl rfl rfl ?_
          refine awl_val hτ rfl rfl rfl ?_
          refine awl_split 172 rfl (fun hb124 => ?_) (fun hb124 => ?_)
          · have h := if_bt h hb124
            refine awl_val hτ rfl rfl rfl ?_
            refine awl_val hτ rfl rfl rfl ?_
            refine awl_val hτ rfl rfl rfl ?_
            refine awl_split 175 rfl (fun hb125 => ?_) (fun hb125 => ?_)
            · have h := if_bt h hb125
              refine awl_val hτ rfl rfl rfl ?_
              refine awl_val hτ rfl rfl rfl ?_
              refine awl_weak (weak_ofP [1, 0] (l := [(16, .d (.fl .f32 x117)), (17, .d (.fl .f32 x119.1)), (19, .d (.cx .f32 x120.re x120.im)), (20, .d (.cx .f64 x121 x122)), (175, .d (.bool true)), (176, .row 0 x116.1.length 0 x116.1.length), (177, .row 1 x114.length 0 x114.length)]) (objs := [.row 1 (x116.1.map eCxf32), .row 1 (x114.map eCxf32)]) rfl (by simp) rfl (by repeat' first | exact trivial | refine ⟨?_, ?_⟩) ⟨rfl, trivial, rfl, trivial, rfl, trivial, rfl, trivial, rfl, trivial, rfl, trivial, rfl, trivial, trivial⟩) ?_
              refine bnd_elim h fun x126 hx126 h => ?_
              refine awl_callP hτ true [] rfl rfl rfl (enterOk func24 rfl rfl) (mapO_cons (exV_view (f := eCxf32) x116.1 rfl rfl rfl) (mapO_cons (exV_view (f := eCxf32) x114 rfl rfl rfl) mapO_nil)) rfl (by simp) ⟨(exVP_view (f := eCxf32) x116.1 rfl rfl rfl), (exVP_view (f := eCxf32) x114 rfl rfl rfl), trivial⟩ (by repeat' first | exact trivial | refine ⟨?_, ?_⟩) (laws_b10Same_ok_fr n x116.1 x114 hx126) ?_
              rintro r0 o0 n0 ⟨rfl, rfl, rfl⟩ -
              refine awl_val hτ rfl rfl rfl ?_
              refine awl_val hτ rfl rfl rfl ?_
              refine awl_split 180 rfl (fun hb127 => ?_) (fun hb127 => ?_)
              · have h := if_bt h hb127
                refine awl_val hτ rfl rfl rfl ?_
                refine awl_val hτ rfl rfl rfl ?_
                refine bnd_elim h fun x128 hx128 h => ?_
                refine awl_callP hτ false [] rfl rfl rfl (enterOk func11 rfl rfl) rfl rfl (by simp) ⟨trivial, trivial, trivial⟩ (by repeat' first | exact trivial | refine ⟨?_, ?_⟩) (spec_SameNumber_ok n x119.1 x117 hx128) ?_
                rintro r0 o0 n0 ⟨rfl, rfl, rfl⟩ -
                refine awl_val hτ rfl rfl rfl ?_
                refine awl_val hτ rfl rfl rfl ?_
                refine awl_split 185 rfl (fun hb129 => ?_) (fun hb129 => ?_)
                · have h := if_bt h hb129
                  refine awl_val hτ rfl rfl rfl ?_
                  refine bnd_elim h fun x130 hx130 h => ?_
                  refine awl_callP hτ false [] rfl rfl rfl (enterOk func26 rfl rfl) rfl rfl (by simp) ⟨trivial, trivial⟩ (by repeat' first | exact trivial | refine ⟨?_, ?_⟩) (impl_NarrowComplex_ok n (Cx.mk x121 x122) hx130) ?_
                  rintro r0 o0 n0 ⟨rfl, rfl, rfl⟩ -
                  refine awl_val hτ rfl rfl rfl ?_
                  refine bnd_elim h fun x131 hx131 h => ?_
                  refine awl_callP hτ false [] rfl rfl rfl (enterOk func25 rfl rfl) rfl rfl (by simp) ⟨trivial, trivial, trivial⟩ (by repeat' first | exact trivial | refine ⟨?_, ?_⟩) (impl_SameComplex_ok n x130 x120 hx131) ?_
                  rintro r0 o0 n0 ⟨rfl, rfl, rfl⟩ -
                  refine awl_weak (weak_ofP [] (l := [(19, .d (.cx .f32 x120.re x120.im)), (185, .d (.bool true)), (189, .d (.bool x131))]) (objs := []) rfl (by simp) rfl (by repeat' first | exact trivial | refine ⟨?_, ?_⟩) ⟨rfl, trivial, rfl, trivial, rfl, trivial, trivial⟩) ?_
                  refine awl_val hτ rfl rfl rfl ?_
                  refine awl_val hτ rfl rfl rfl ?_
                  refine awl_split 191 rfl (fun hb132 => ?_) (fun hb132 => ?_)
                  · have h := if_bt h hb132
                    refine awl_val hτ rfl rfl rfl ?_
                    refine bnd_elim h fun x133 hx133 h => ?_
                    refine awl_callP hτ false [] rfl rfl rfl (enterOk func10 rfl rfl) rfl rfl (by simp) ⟨trivial, trivial⟩ (by repeat' first | exact trivial | refine ⟨?_, ?_⟩) (impl_ConjugateOf_ok n x120 hx133) ?_
                    rintro r0 o0 n0 ⟨rfl, rfl, rfl⟩ -
                    refine bnd_elim h fun x134 hx134 h => ?_
                    refine awl_callP hτ false [] rfl rfl rfl (enterOk func10 rfl rfl) rfl rfl (by simp) ⟨trivial, trivial⟩ (by repeat' first | exact trivial | refine ⟨?_, ?_⟩) (impl_ConjugateOf_ok n x133 hx134) ?_
                    rintro r0 o0 n0 ⟨rfl, rfl, rfl⟩ -
                    refine awl_val hτ rfl rfl rfl ?_
                    refine bnd_elim h fun x135 hx135 h => ?_
                    refine awl_callP hτ false [] rfl rfl rfl (enterOk func25 rfl rfl) rfl rfl (by simp) ⟨trivial, trivial, trivial⟩ (by repeat' first | exact trivial | refine ⟨?_, ?_⟩) (impl_SameComplex_ok n x134 x120 hx135) ?_
                    rintro r0 o0 n0 ⟨rfl, rfl, rfl⟩ -
                    refine awl_val hτ rfl rfl rfl ?_
                    refine awl_val hτ rfl rfl rfl ?_
                    refine awl_split 198 rfl (fun hb136 => ?_) (fun hb136 => ?_)
                    · have h := if_bt h hb136
                      refine awl_val hτ rfl rfl rfl ?_
                      refine bnd_elim h fun x137 hx137 h => ?_
                      refine awl_callP hτ false [] rfl rfl rfl (enterOk func27 rfl rfl) rfl rfl (by simp) ⟨trivial, trivial⟩ (by repeat' first | exact trivial | refine ⟨?_, ?_⟩) (impl_IsFiniteComplex_ok n x120 hx137) ?_
                      rintro r0 o0 n0 ⟨rfl, rfl, rfl⟩ -
                      refine awl_val hτ rfl rfl rfl ?_
                      refine awl_weak (weak_ofP [] (l := [(19, .d (.cx .f32 x120.re x120.im)), (198, .d (.bool true)), (200, .d (.bool x137)), (201, .d (.cx .f32 x120.re x120.im))]) (objs := []) rfl (by simp) rfl (by repeat' first | exact trivial | refine ⟨?_, ?_⟩) ⟨rfl, trivial, rfl, trivial, rfl, trivial, rfl, trivial, trivial⟩) ?_
                      refine awl_val hτ rfl rfl rfl ?_
                      refine bnd_elim h fun x138 hx138 h => ?_
                      refine awl_callP hτ false [] rfl rfl rfl (enterOk func28 rfl rfl) rfl rfl (by simp) ⟨trivial, trivial⟩ (by repeat' first | exact trivial | refine ⟨?_, ?_⟩) (spec_IsFinite_ok n x120.re hx138) ?_
                      rintro r0 o0 n0 ⟨rfl, rfl, rfl⟩ -
                      refine awl_val hτ rfl rfl rfl ?_
                      refine awl_split 204 rfl (fun hb139 => ?_) (fun hb139 => ?_)
                      · have h := if_bt h hb139
                        refine awl_val hτ rfl rfl rfl ?_
                        refine awl_val hτ rfl rfl rfl ?_
                        refine bnd_elim h fun x140 hx140 h => ?_
                        refine awl_callP hτ false [] rfl rfl rfl (enterOk func28 rfl rfl) rfl rfl (by simp) ⟨trivial, trivial⟩ (by repeat' first | exact trivial | refine ⟨?_, ?_⟩) (spec_IsFinite_ok n x120.im hx140) ?_
                        rintro r0 o0 n0 ⟨rfl, rfl, rfl⟩ -
                        refine awl_val hτ rfl rfl rfl ?_
                        refine awl_val hτ rfl rfl rfl ?_
                        refine awl_val hτ rfl rfl rfl ?_
                        refine awl_val hτ rfl rfl rfl ?_
                        refine awl_nil ?_
                        refine aw_weak (weak_ofP [] (l := [(4, .d (.bool (x137 == x140)))]) (objs := []) rfl (by simp) rfl (by repeat' first | exact trivial | refine ⟨?_, ?_⟩) ⟨rfl, trivial, trivial⟩) ?_
                        refine aw_ret ?_
                        have hr := Option.some.inj h
                        subst hr
                        exact ret_objs (.inr rfl) [] (objs' := []) (new := []) rfl (by simp) (by simp) rfl (by repeat' first | exact trivial | refine ⟨?_, ?_⟩) rfl rfl (by repeat' first | exact trivial | refine ⟨?_, ?_⟩) (fun _ => ⟨by simp [V.flat, V.flatA, V.flatC, D.flat], flat_nil⟩) ⟨rfl, rfl, rfl⟩
                      · have h := if_bf h hb139
                        refine awl_skip rfl rfl ?_
                        refine awl_skip rfl rfl ?_
                        refine awl_skip rfl rfl ?_
                        refine awl_val hτ rfl rfl rfl ?_
                        refine awl_val hτ rfl rfl rfl ?_
                        refine awl_val hτ rfl rfl rfl ?_
                        refine awl_val hτ rfl rfl rfl ?_
                        refine awl_nil ?_
                        refine aw_weak (weak_ofP [] (l := [(4, .d (.bool (x137 == false)))]) (objs := []) rfl (by simp) rfl (by repeat' first | exact trivial | refine ⟨?_, ?_⟩) ⟨rfl, trivial, trivial⟩) ?_
                        refine aw_ret ?_
                        have hr := Option.some.inj h
                        subst hr
                        exact ret_objs (.inr rfl) [] (objs' := []) (new := []) rfl (by simp) (by simp) rfl (by repeat' first | exact trivial | refine ⟨?_, ?_⟩) rfl rfl (by repeat' first | exact trivial | refine ⟨?_, ?_⟩) (fun _ => ⟨by simp [V.flat, V.flatA, V.flatC, D.flat], flat_nil⟩) ⟨rfl, rfl, rfl⟩
                    · have h := if_bf h hb136
                      refine awl_skip rfl rfl ?_
                      refine awl_skip rfl rfl ?_
                      refine awl_skip rfl rfl ?_
                      refine awl_weak (weak_ofP [] (l := [(19, .d (.cx .f32 x120.re x120.im)), (198, .d (.bool false)), (200, .und), (201, .und)]) (objs := []) rfl (by simp) rfl (by repeat' first | exact trivial | refine ⟨?_, ?_⟩) ⟨rfl, trivial, rfl, trivial, rfl, trivial, rfl, trivial, trivial⟩) ?_
                      refine awl_skip rfl rfl ?_
                      refine awl_skip rfl rfl ?_
                      refine awl_skip rfl rfl ?_
                      refine awl_skip rfl rfl ?_
                      refine awl_skip rfl rfl ?_
                      refine awl_skip rfl rfl ?_
                      refine awl_skip rfl rfl ?_
                      refine awl_skip rfl rfl ?_
                      refine awl_val hτ rfl rfl rfl ?_
                      refine awl_val hτ rfl rfl rfl ?_
                      refine awl_nil ?_
                      refine aw_weak (weak_ofP [] (l := [(4, .d (.bool false))]) (objs := []) rfl (by simp) rfl (by repeat' first | exact trivial | refine ⟨?_, ?_⟩) ⟨rfl, trivial, trivial⟩) ?_
                      refine aw_ret ?_
                      have hr := Option.some.inj h
                      subst hr
                      exact ret_objs (.inr rfl) [] (objs' := []) (new := []) rfl (by simp) (by simp) rfl (by repeat' first | exact trivial | refine ⟨?_, ?_⟩) rfl rfl (by repeat' first | exact trivial | refine ⟨?_, ?_⟩) (fun _ => ⟨by simp [V.flat, V.flatA, V.flatC, D.flat], flat_nil⟩) ⟨rfl, rfl, rfl⟩
                  · have h := if_bf h hb132
                    refine awl_skip rfl rfl ?_
                    refine awl_skip rfl rfl ?_
                    refine awl_skip rfl rfl ?_
                    refine awl_skip rfl rfl ?_
                    refine awl_skip rfl rfl ?_
                    refine awl_val hτ rfl rfl rfl ?_
                    refine awl_val hτ rfl rfl rfl ?_
                    refine awl_skip rfl rfl ?_
                    refine awl_skip rfl rfl ?_
                    refine awl_skip rfl rfl ?_
                    refine awl_weak (weak_ofP [] (l := [(19, .d (.cx .f32 x120.re x120.im)), (198, .d (.bool false)), (200, .und), (201, .und)]) (objs := []) rfl (by simp) rfl (by repeat' first | exact trivial | refine ⟨?_, ?_⟩) ⟨rfl, trivial, rfl, trivial, rfl, trivial, rfl, trivial, trivial⟩) ?_
                    refine awl_skip rfl rfl ?_
                    refine awl_skip rfl rfl ?_
                    refine awl_skip rfl rfl ?_
                    refine awl_skip rfl rfl ?_
                    refine awl_skip rfl rfl ?_
                    refine awl_skip rfl rfl ?_
                    refine awl_skip rfl rfl ?_
                    refine awl_skip rfl rfl ?_
                    refine awl_val hτ rfl rfl rfl ?_
                    refine awl_val hτ rfl rfl rfl ?_
                    refine awl_nil ?_
                    refine aw_weak (weak_ofP [] (l := [(4, .d (.bool false))]) (objs := []) rfl (by simp) rfl (by repeat' first | exact trivial | refine ⟨?_, ?_⟩) ⟨rfl, trivial, trivial⟩) ?_
                    refine aw_ret ?_
                    have hr := Option.some.inj h
                    subst hr
                    exact ret_objs (.inr rfl) [] (objs' := []) (new := []) rfl (by simp) (by simp) rfl (by repeat' first | exact trivial | refine ⟨?_, ?_⟩) rfl rfl (by repeat' first | exact trivial | refine ⟨?_, ?_⟩) (fun _ => ⟨by simp [V.flat, V.flatA, V.flatC, D.flat], flat_nil⟩) ⟨rfl, rfl, rfl⟩
                · have h := if_bf h hb129
                  refine awl_skip rfl rfl ?_
                  refine awl_skip rfl rfl ?_
                  refine awl_skip rfl rfl ?_
                  refine awl_skip rfl rfl ?_
                  refine awl_weak (weak_ofP [] (l := [(19, .d (.cx .f32 x120.re x120.im)), (185, .d (.bool false)), (189, .und)]) (objs := []) rfl (by simp) rfl (by repeat' first | exact trivial | refine ⟨?_, ?_⟩) ⟨rfl, trivial, rfl, trivial, rfl, trivial, trivial⟩) ?_
                  refine awl_val hτ rfl rfl rfl ?_
                  refine awl_val hτ rfl rfl rfl ?_
                  refine awl_skip rfl rfl ?_
                  refine awl_skip rfl rfl ?_
                  refine awl_skip rfl rfl ?_
                  refine awl_skip rfl rfl ?_
                  refine awl_skip rfl rfl ?_
                  refine awl_val hτ rfl rfl rfl ?_
                  refine awl_val hτ rfl rfl rfl ?_
                  refine awl_skip rfl rfl ?_
                  refine awl_skip rfl rfl ?_
                  refine awl_skip rfl rfl ?_
                  refine awl_weak (weak_ofP [] (l := [(19, .d (.cx .f32 x120.re x120.im)), (198, .d (.bool false)), (200, .und), (201, .und)]) (objs := []) rfl (by simp) rfl (by repeat' first | exact trivial | refine ⟨?_, ?_⟩) ⟨rfl, trivial, rfl, trivial, rfl, trivial, rfl, trivial, trivial⟩) ?_
                  refine awl_skip rfl rfl ?_
                  refine awl_skip rfl rfl ?_
                  refine awl_skip rfl rfl ?_
                  refine awl_skip rfl rfl ?_
                  refine awl_skip rfl rfl ?_
                  refine awl_skip rfl rfl ?_
                  refine awl_skip rfl rfl ?_
                  refine awl_skip rfl rfl ?_
                  refine awl_val hτ rfl rfl rfl ?_
                  refine awl_val hτ rfl rfl rfl ?_
                  refine awl_nil ?_
                  refine aw_weak (weak_ofP [] (l := [(4, .d (.bool false))]) (objs := []) rfl (by simp) rfl (by repeat' first | exact trivial | refine ⟨?_, ?_⟩) ⟨rfl, trivial, trivial⟩) ?_
                  refine aw_ret ?_
                  have hr := Option.some.inj h
                  subst hr
                  exact ret_objs (.inr rfl) [] (objs' := []) (new := []) rfl (by simp) (by simp) rfl (by repeat' first | exact trivial | refine ⟨?_, ?_⟩) rfl rfl (by repeat' first | exact trivial | refine ⟨?_, ?_⟩) (fun _ => ⟨by simp [V.flat, V.flatA, V.flatC, D.flat], flat_nil⟩) ⟨rfl, rfl, rfl⟩
              · have h := if_bf h hb127
                refine awl_skip rfl rfl ?_
                refine awl_skip rfl rfl ?_
                refine awl_skip rfl rfl ?_
                refine awl_val hτ rfl rfl rfl ?_
                refine awl_val hτ rfl rfl rfl ?_
                refine awl_skip rfl rfl ?_
                refine awl_skip rfl rfl ?_
                refine awl_skip rfl rfl ?_
                refine awl_skip rfl rfl ?_
                refine awl_weak (weak_ofP [] (l := [(19, .d (.cx .f32 x120.re x120.im)), (185, .d (.bool false)), (189, .und)]) (objs := []) rfl (by simp) rfl (by repeat' first | exact trivial | refine ⟨?_, ?_⟩) ⟨rfl, trivial, rfl, trivial, rfl, trivial, trivial⟩) ?_
                refine awl_val hτ rfl rfl rfl ?_
                refine awl_val hτ rfl rfl rfl ?_
                refine awl_skip rfl rfl ?_
                refine awl_skip rfl rfl ?_
                refine awl_skip rfl rfl ?_
                refine awl_skip rfl rfl ?_
                refine awl_skip rfl rfl ?_
                refine awl_val hτ rfl rfl rfl ?_
                refine awl_val hτ rfl rfl rfl ?_
                refine awl_skip rfl rfl ?_
                refine awl_skip rfl rfl ?_
                refine awl_skip rfl rfl ?_
                refine awl_weak (weak_ofP [] (l := [(19, .d (.cx .f32 x120.re x120.im)), (198, .d (.bool false)), (200, .und), (201, .und)]) (objs := []) rfl (by simp) rfl (by repeat' first | exact trivial | refine ⟨?_, ?_⟩) ⟨rfl, trivial, rfl, trivial, rfl, trivial, rfl, trivial, trivial⟩) ?_
                refine awl_skip rfl rfl ?_
                refine awl_skip rfl rfl ?_
                refine awl_skip rfl rfl ?_
                refine awl_skip rfl rfl ?_
                refine awl_skip rfl rfl ?_
                refine awl_skip rfl rfl ?_
                refine awl_skip rfl rfl ?_
                refine awl_skip rfl rfl ?_
                refine awl_val hτ rfl rfl rfl ?_
                refine awl_val hτ rfl rfl rfl ?_
                refine awl_nil ?_
                refine aw_weak (weak_ofP [] (l := [(4, .d (.bool false))]) (objs := []) rfl (by simp) rfl (by repeat' first | exact trivial | refine ⟨?_, ?_⟩) ⟨rfl, trivial, trivial⟩) ?_
                refine aw_ret ?_
                have hr := Option.some.inj h
                subst hr
                exact ret_objs (.inr rfl) [] (objs' := []) (new := []) rfl (by simp) (by simp) rfl (by repeat' first | exact trivial | refine ⟨?_, ?_⟩) rfl rfl (by repeat' first | exact trivial | refine ⟨?_, ?_⟩) (fun _ => ⟨by simp [V.flat, V.flatA, V.flatC, D.flat], flat_nil⟩) ⟨rfl, rfl, rfl⟩
            · have h := if_bf h hb125
              refine awl_skip rfl rfl ?_
              refine awl_skip rfl rfl ?_
              refine awl_skip rfl rfl ?_
              refine awl_val hτ rfl rfl rfl ?_
              refine awl_weak (weak_ofP [] (l := [(16, .d (.fl .f32 x117)), (17, .d (.fl .f32 x119.1)), (19, .d (.cx .f32 x120.re x120.im)), (20, .d (.cx .f64 x121 x122)), (179, .d (.bool false))]) (objs := []) rfl (by simp) rfl (by repeat' first | exact trivial | refine ⟨?_, ?_⟩) ⟨rfl, trivial, rfl, trivial, rfl, trivial, rfl, trivial, rfl, trivial, trivial⟩) ?_
              refine awl_val hτ rfl rfl rfl ?_
              refine awl_skip rfl rfl ?_
              refine awl_skip rfl rfl ?_
              refine awl_skip rfl rfl ?_
              refine awl_val hτ rfl rfl rfl ?_
              refine awl_val hτ rfl rfl rfl ?_
              refine awl_skip rfl rfl ?_
              refine awl_skip rfl rfl ?_
              refine awl_skip rfl rfl ?_
              refine awl_skip rfl rfl ?_
              refine awl_val hτ rfl rfl rfl ?_
              refine awl_val hτ rfl rfl rfl ?_
              refine awl_weak (weak_ofP [] (l := [(19, .d (.cx .f32 x120.re x120.im)), (191, .d (.bool false))]) (objs := []) rfl (by simp) rfl (by repeat' first | exact trivial | refine ⟨?_, ?_⟩) ⟨rfl, trivial, rfl, trivial, trivial⟩) ?_
              refine awl_skip rfl rfl ?_
              refine awl_skip rfl rfl ?_
              refine awl_skip rfl rfl ?_
              refine awl_skip rfl rfl ?_
              refine awl_skip rfl rfl ?_
              refine awl_val hτ rfl rfl rfl ?_
              refine awl_val hτ rfl rfl rfl ?_
              refine awl_skip rfl rfl ?_
              refine awl_skip rfl rfl ?_
              refine awl_skip rfl rfl ?_
              refine awl_skip rfl rfl ?_
              refine awl_skip rfl rfl ?_
              refine awl_weak (weak_ofP [] (l := [(19, .d (.cx .f32 x120.re x120.im)), (198, .d (.bool false)), (200, .und), (203, .und)]) (objs := []) rfl (by simp) rfl (by repeat' first | exact trivial | refine ⟨?_, ?_⟩) ⟨rfl, trivial, rfl, trivial, rfl, trivial, rfl, trivial, trivial⟩) ?_
              refine awl_skip rfl rfl ?_
              refine awl_skip rfl rfl ?_
              refine awl_skip rfl rfl ?_
              refine awl_skip rfl rfl ?_
              refine awl_skip rfl rfl ?_
              refine awl_skip rfl rfl ?_
              refine awl_val hτ rfl rfl rfl ?_
              refine awl_val hτ rfl rfl rfl ?_
              refine awl_nil ?_
              refine aw_weak (weak_ofP [] (l := [(4, .d (.bool false))]) (objs := []) rfl (by simp) rfl (by repeat' first | exact trivial | refine ⟨?_, ?_⟩) ⟨rfl, trivial, trivial⟩) ?_
              refine aw_ret ?_
              have hr := Option.some.inj h
              subst hr
              exact ret_objs (.inr rfl) [] (objs' := []) (new := []) rfl (by simp) (by simp) rfl (by repeat' first | exact trivial | refine ⟨?_, ?_⟩) rfl rfl (by repeat' first | exact trivial | refine ⟨?_, ?_⟩) (fun _ => ⟨by simp [V.flat, V.flatA, V.flatC, D.flat], flat_nil⟩) ⟨rfl, rfl, rfl⟩
          · have h := if_bf h hb124
            refine awl_skip rfl rfl ?_
            refine awl_val hτ rfl rfl rfl ?_
            refine awl_val hτ rfl rfl rfl ?_
            refine awl_skip rfl rfl ?_
            refine awl_skip rfl rfl ?_
            refine awl_skip rfl rfl ?_
            refine awl_val hτ rfl rfl rfl ?_
            refine awl_weak (weak_ofP [] (l := [(16, .d (.fl .f32 x117)), (17, .d (.fl .f32 x119.1)), (19, .d (.cx .f32 x120.re x120.im)), (20, .d (.cx .f64 x121 x122)), (179, .d (.bool false))]) (objs := []) rfl (by simp) rfl (by repeat' first | exact trivial | refine ⟨?_, ?_⟩) ⟨rfl, trivial, rfl, trivial, rfl, trivial, rfl, trivial, rfl, trivial, trivial⟩) ?_
            refine awl_val hτ rfl rfl rfl ?_
            refine awl_skip rfl rfl ?_
            refine awl_skip rfl rfl ?_
            refine awl_skip rfl rfl ?_
            refine awl_val hτ rfl rfl rfl ?_
            refine awl_val hτ rfl rfl rfl ?_
            refine awl_skip rfl rfl ?_
            refine awl_skip rfl rfl ?_
            refine awl_skip rfl rfl ?_
            refine awl_skip rfl rfl ?_
            refine awl_val hτ rfl rfl rfl ?_
            refine awl_val hτ rfl rfl rfl ?_
            refine awl_weak (weak_ofP [] (l := [(19, .d (.cx .f32 x120.re x120.im)), (191, .d (.bool false))]) (objs := []) rfl (by simp) rfl (by repeat' first | exact trivial | refine ⟨?_, ?_⟩) ⟨rfl, trivial, rfl, trivial, trivial⟩) ?_
            refine awl_skip rfl rfl ?_
            refine awl_skip rfl rfl ?_
            refine awl_skip rfl rfl ?_
            refine awl_skip rfl rfl ?_
            refine awl_skip rfl rfl ?_
            refine awl_val hτ rfl rfl rfl ?_
            refine awl_val hτ rfl rfl rfl ?_
            refine awl_skip rfl rfl ?_
            refine awl_skip rfl rfl ?_
            refine awl_skip rfl rfl ?_
            refine awl_skip rfl rfl ?_
            refine awl_skip rfl rfl ?_
            refine awl_weak (weak_ofP [] (l := [(19, .d (.cx .f32 x120.re x120.im)), (198, .d (.bool false)), (200, .und), (203, .und)]) (objs := []) rfl (by simp) rfl (by repeat' first | exact trivial | refine ⟨?_, ?_⟩) ⟨rfl, trivial, rfl, trivial, rfl, trivial, rfl, trivial, trivial⟩) ?_
            refine awl_skip rfl rfl ?_
            refine awl_skip rfl rfl ?_
            refine awl_skip rfl rfl ?_
            refine awl_skip rfl rfl ?_
            refine awl_skip rfl rfl ?_
            refine awl_skip rfl rfl ?_
            refine awl_val hτ rfl rfl rfl ?_
            refine awl_val hτ rfl rfl rfl ?_
            refine awl_nil ?_
            refine aw_weak (weak_ofP [] (l := [(4, .d (.bool false))]) (objs := []) rfl (by simp) rfl (by repeat' first | exact trivial | refine ⟨?_, ?_⟩) ⟨rfl, trivial, trivial⟩) ?_
            refine aw_ret ?_
            have hr := Option.some.inj h
            subst hr
            exact ret_objs (.inr rfl) [] (objs' := []) (new := []) rfl (by simp) (by simp) rfl (by repeat' first | exact trivial | refine ⟨?_, ?_⟩) rfl rfl (by repeat' first | exact trivial | refine ⟨?_, ?_⟩) (fun _ => ⟨by simp [V.flat, V.flatA, V.flatC, D.flat], flat_nil⟩) ⟨rfl, rfl, rfl⟩
        · have h := if_bf h hb123
          refine awl_skip rfl rfl ?_
          refine awl_val hτ rfl rfl rfl ?_
          refine awl_val hτ rfl rfl rfl ?_
          refine awl_skip rfl rfl ?_
          refine awl_val hτ rfl rfl rfl ?_
          refine awl_val hτ rfl rfl rfl ?_
          refine awl_skip rfl rfl ?_
          refine awl_skip rfl rfl ?_
          refine awl_skip rfl rfl ?_
          refine awl_val hτ rfl rfl rfl ?_
          refine awl_weak (weak_ofP [] (l := [(16, .d (.fl .f32 x117)), (17, .d (.fl .f32 x119.1)), (19, .d (.cx .f32 x120.re x120.im)), (20, .d (.cx .f64 x121 x122)), (179, .d (.bool false))]) (objs := []) rfl (by simp) rfl (by repeat' first | exact trivial | refine ⟨?_, ?_⟩) ⟨rfl, trivial, rfl, trivial, rfl, trivial, rfl, trivial, rfl, trivial, trivial⟩) ?_
          refine awl_val hτ rfl rfl rfl ?_
          refine awl_skip rfl rfl ?_
          refine awl_skip rfl rfl ?_
          refine awl_skip rfl rfl ?_
          refine awl_val hτ rfl rfl rfl ?_
          refine awl_val hτ rfl rfl rfl ?_
          refine awl_skip rfl rfl ?_
          refine awl_skip rfl rfl ?_
          refine awl_skip rfl rfl ?_
          refine awl_skip rfl rfl ?_
          refine awl_val hτ rfl rfl rfl ?_
          refine awl_val hτ rfl rfl rfl ?_
          refine awl_weak (weak_ofP [] (l := [(19, .d (.cx .f32 x120.re x120.im)), (191, .d (.bool false))]) (objs := []) rfl (by simp) rfl (by repeat' first | exact trivial | refine ⟨?_, ?_⟩) ⟨rfl, trivial, rfl, trivial, trivial⟩) ?_
          refine awl_skip rfl rfl ?_
          refine awl_skip rfl rfl ?_
          refine awl_skip rfl rfl ?_
          refine awl_skip rfl rfl ?_
          refine awl_skip rfl rfl ?_
          refine awl_val hτ rfl rfl rfl ?_
          refine awl_val hτ rfl rfl rfl ?_
          refine awl_skip rfl rfl ?_
          refine awl_skip rfl rfl ?_
          refine awl_skip rfl rfl ?_
          refine awl_skip rfl rfl ?_
          refine awl_skip rfl rfl ?_
          refine awl_weak (weak_ofP [] (l := [(19, .d (.cx .f32 x120.re x120.im)), (198, .d (.bool false)), (200, .und), (203, .und)]) (objs := []) rfl (by simp) rfl (by repeat' first | exact trivial | refine ⟨?_, ?_⟩) ⟨rfl, trivial, rfl, trivial, rfl, trivial, rfl, trivial, trivial⟩) ?_
          refine awl_skip rfl rfl ?_
          refine awl_skip rfl rfl ?_
          refine awl_skip rfl rfl ?_
          refine awl_skip rfl rfl ?_
          refine awl_skip rfl rfl ?_
          refine awl_skip rfl rfl ?_
          refine awl_val hτ rfl rfl rfl ?_
          refine awl_val hτ rfl rfl rfl ?_
          refine awl_nil ?_
          refine aw_weak (weak_ofP [] (l := [(4, .d (.bool false))]) (objs := []) rfl (by simp) rfl (by repeat' first | exact trivial | refine ⟨?_, ?_⟩) ⟨rfl, trivial, trivial⟩) ?_
          refine aw_ret ?_
          have hr := Option.some.inj h
          subst hr
          exact ret_objs (.inr rfl) [] (objs' := []) (new := []) rfl (by simp) (by simp) rfl (by repeat' first | exact trivial | refine ⟨?_, ?_⟩) rfl rfl (by repeat' first | exact trivial | refine ⟨?_, ?_⟩) (fun _ => ⟨by simp [V.flat, V.flatA, V.flatC, D.flat], flat_nil⟩) ⟨rfl, rfl, rfl⟩
      · refine aw_seq ?_
        refine aw_hk1 (ι := Bool) (fun v149 => St.of [(0, .d (.sl false (code_.map eIntu8))), (1, .d (.sl false (more_.map eIntu8))), (136, .d (.bool v149))] [] f3.ntmps 0) (fun v149 => m_laws_FnProducts_j3 n code_ more_ v149 = some r) ?_ (fun hk151 => ?_)
        · rintro v149 h
          replace h : m_laws_FnProducts_j3 n code_ more_ v149 = some r := h
          unfold m_laws_FnProducts_j3 at h
          refine aw_cond rfl (fun hc150 => ?_) (fun hc150 => ?_)
          · have h := if_bt h hc150
            refine aw_seq ?_
            refine aw_region ?_
            refine awl_val hτ rfl rfl rfl ?_
            refine awl_nil ?_
            refine aw_weak (weak_ofP [] (l := [(4, .d (.bool false))]) (objs := []) rfl (by simp) rfl (by repeat' first | exact trivial | refine ⟨?_, ?_⟩) ⟨rfl, trivial, trivial⟩) ?_
            refine aw_ret ?_
            have hr := Option.some.inj h
            subst hr
            exact ret_objs (.inr rfl) [] (objs' := []) (new := []) rfl (by simp) (by simp) rfl (by repeat' first | exact trivial | refine ⟨?_, ?_⟩) rfl rfl (by repeat' first | exact trivial | refine ⟨?_, ?_⟩) (fun _ => ⟨by simp [V.flat, V.flatA, V.flatC, D.flat], flat_nil⟩) ⟨rfl, rfl, rfl⟩
          · have h := if_bf h hc150
            refine aw_skip ?_
            refine aw_weak (weak_ofP [] (l := [(0, .d (.sl false (code_.map eIntu8))), (1, .d (.sl false (more_.map eIntu8)))]) (objs := []) rfl (by simp) rfl (by repeat' first | exact trivial | refine ⟨?_, ?_⟩) ⟨rfl, trivial, rfl, trivial, trivial⟩) ?_
            exact hk141 () h
        · refine aw_seq ?_
          refine aw_region ?_
          refine awl_val hτ rfl rfl rfl ?_
          refine awl_val hτ rfl rfl rfl ?_
          refine awl_val hτ rfl rfl rfl ?_
          refine awl_split 122 rfl (fun hb152 => ?_) (fun hb152 => ?_)
          · have hb152 := not_t hb152
            have h := if_bf h hb152
            refine awl_val hτ rfl rfl rfl ?_
            refine awl_val hτ rfl rfl rfl ?_
            refine bnd_elim h fun x153 hx153 h => ?_
            refine awl_callP hτ false [] rfl rfl rfl (enterOk func14 rfl rfl) rfl rfl (by simp) ⟨trivial, trivial, trivial⟩ (by repeat' first | exact trivial | refine ⟨?_, ?_⟩) (impl_QuotientOf_ok n x81 x80 hx153) ?_
            rintro r0 o0 n0 ⟨rfl, rfl, rfl⟩ -
            refine awl_val hτ rfl rfl rfl ?_
            refine awl_val hτ rfl rfl rfl ?_
            refine awl_val hτ rfl rfl rfl ?_
            refine awl_val hτ rfl rfl rfl ?_
            refine awl_split 129 rfl (fun hb154 => ?_) (fun hb154 => ?_)
            · have hb154 := not_t hb154
              have h := if_bf h hb154
              refine awl_skip rfl rfl ?_
              refine awl_skip rfl rfl ?_
              refine awl_weak (weak_ofP [] (l := [(0, .d (.sl false (code_.map eIntu8))), (1, .d (.sl false (more_.map eIntu8))), (5, .d (.cx .f32 x78.re x78.im)), (129, .d (.bool true)), (131, .und)]) (objs := []) rfl (by simp) rfl (by repeat' first | exact trivial | refine ⟨?_, ?_⟩) ⟨rfl, trivial, rfl, trivial, rfl, trivial, rfl, trivial, rfl, trivial, trivial⟩) ?_
              refine awl_skip rfl rfl ?_
              refine awl_skip rfl rfl ?_
              refine awl_skip rfl rfl ?_
              refine awl_skip rfl rfl ?_
              refine awl_val hτ rfl rfl rfl ?_
              refine awl_nil ?_
              refine aw_weak (weak_ofP [] (l := [(0, .d (.sl false (code_.map eIntu8))), (1, .d (.sl false (more_.map eIntu8))), (136, .d (.bool true))]) (objs := []) rfl (by simp) rfl (by repeat' first | exact trivial | refine ⟨?_, ?_⟩) ⟨rfl, trivial, rfl, trivial, rfl, trivial, trivial⟩) ?_
              exact hk151 true h
            · have hb154 := not_f hb154
              have h := if_bt h hb154
              refine awl_val hτ rfl rfl rfl ?_
              refine bnd_elim h fun x155 hx155 h => ?_
              refine awl_callP hτ false [] rfl rfl rfl (enterOk func15 rfl rfl) rfl rfl (by simp) ⟨trivial, trivial, trivial⟩ (by repeat' first | exact trivial | refine ⟨?_, ?_⟩) (impl_ScaleComplex_ok n x78 (1073741824 : Nat) hx155) ?_
              rintro r0 o0 n0 ⟨rfl, rfl, rfl⟩ -
              refine awl_weak (weak_ofP [] (l := [(0, .d (.sl false (code_.map eIntu8))), (1, .d (.sl false (more_.map eIntu8))), (5, .d (.cx .f32 x78.re x78.im)), (129, .d (.bool false)), (131, .d (.cx .f32 x155.re x155.im))]) (objs := []) rfl (by simp) rfl (by repeat' first | exact trivial | refine ⟨?_, ?_⟩) ⟨rfl, trivial, rfl, trivial, rfl, trivial, rfl, trivial, rfl, trivial, trivial⟩) ?_
              refine awl_val hτ rfl rfl rfl ?_
              refine awl_val hτ rfl rfl rfl ?_
              refine awl_val hτ rfl rfl rfl ?_
              refine awl_val hτ rfl rfl rfl ?_
              refine awl_val hτ rfl rfl rfl ?_
              refine awl_nil ?_
              refine aw_weak (weak_ofP [] (l := [(0, .d (.sl false (code_.map eIntu8))), (1, .d (.sl false (more_.map eIntu8))), (136, .d (.bool (!(fcmp .eql .f32 x155.re (farith .add .f32 x78.re x78.re) && fcmp .eql .f32 x155.im (farith .add .f32 x78.im x78.im)))))]) (objs := []) rfl (by simp) rfl (by repeat' first | exact trivial | refine ⟨?_, ?_⟩) ⟨rfl, trivial, rfl, trivial, rfl, trivial, trivial⟩) ?_
              exact hk151 (!(fcmp .eql .f32 x155.re (farith .add .f32 x78.re x78.re) && fcmp .eql .f32 x155.im (farith .add .f32 x78.im x78.im))) h
          · have hb152 := not_f hb152
            have h := if_bt h hb152
            refine awl_skip rfl rfl ?_
            refine awl_skip rfl rfl ?_
            refine awl_skip rfl rfl ?_
            refine awl_skip rfl rfl ?_
            refine awl_skip rfl rfl ?_
            refine awl_val hτ rfl rfl rfl ?_
            refine awl_val hτ rfl rfl rfl ?_
            refine awl_val hτ rfl rfl rfl ?_
            refine bnd_elim h fun x156 hx156 h => ?_
            refine awl_callP hτ false [] rfl rfl rfl (enterOk func15 rfl rfl) rfl rfl (by simp) ⟨trivial, trivial, trivial⟩ (by repeat' first | exact trivial | refine ⟨?_, ?_⟩) (impl_ScaleComplex_ok n x78 (1073741824 : Nat) hx156) ?_
            rintro r0 o0 n0 ⟨rfl, rfl, rfl⟩ -
            refine awl_weak (weak_ofP [] (l := [(0, .d (.sl false (code_.map eIntu8))), (1, .d (.sl false (more_.map eIntu8))), (5, .d (.cx .f32 x78.re x78.im)), (129, .d (.bool false)), (131, .d (.cx .f32 x156.re x156.im))]) (objs := []) rfl (by simp) rfl (by repeat' first | exact trivial | refine ⟨?_, ?_⟩) ⟨rfl, trivial, rfl, trivial, rfl, trivial, rfl, trivial, rfl, trivial, trivial⟩) ?_
            refine awl_val hτ rfl rfl rfl ?_
            refine awl_val hτ rfl rfl rfl ?_
            refine awl_val hτ rfl rfl rfl ?_
            refine awl_val hτ rfl rfl rfl ?_
            refine awl_val hτ rfl rfl rfl ?_
            refine awl_nil ?_
            refine aw_weak (weak_ofP [] (l := [(0, .d (.sl false (code_.map eIntu8))), (1, .d (.sl false (more_.map eIntu8))), (136, .d (.bool (!(fcmp .eql .f32 x156.re (farith .add .f32 x78.re x78.re) && fcmp .eql .f32 x156.im (farith .add .f32 x78.im x78.im)))))]) (objs := []) rfl (by simp) rfl (by repeat' first | exact trivial | refine ⟨?_, ?_⟩) ⟨rfl, trivial, rfl, trivial, rfl, trivial, trivial⟩) ?_
            exact hk151 (!(fcmp .eql .f32 x156.re (farith .add .f32 x78.re x78.re) && fcmp .eql .f32 x156.im (farith .add .f32 x78.im x78.im))) h
    · refine aw_seq ?_
      refine aw_hk1 (ι := Bool) (fun v170 => St.of [(0, .d (.sl false (code_.map eIntu8))), (1, .d (.sl false (more_.map eIntu8))), (5, .d (.cx .f32 x78.re x78.im)), (6, .d (.cx .f32 x80.re x80.im)), (7, .d (.cx .f32 x81.re x81.im)), (119, .d (.bool v170))] [] f3.ntmps 0) (fun v170 => m_laws_FnProducts_j4 n code_ more_ x78 x80 x81 v170 = some r) ?_ (fun hk172 => ?_)
      · rintro v170 h
        replace h : m_laws_FnProducts_j4 n code_ more_ x78 x80 x81 v170 = some r := h
        unfold m_laws_FnProducts_j4 at h
        refine aw_cond rfl (fun hc171 => ?_) (fun hc171 => ?_)
        · have h := if_bt h hc171
          refine aw_seq ?_
          refine aw_region ?_
          refine awl_val hτ rfl rfl rfl ?_
          refine awl_nil ?_
          refine aw_weak (weak_ofP [] (l := [(4, .d (.bool false))]) (objs := []) rfl (by simp) rfl (by repeat' first | exact trivial | refine ⟨?_, ?_⟩) ⟨rfl, trivial, trivial⟩) ?_
          refine aw_ret ?_
          have hr := Option.some.inj h
          subst hr
          exact ret_objs (.inr rfl) [] (objs' := []) (new := []) rfl (by simp) (by simp) rfl (by repeat' first | exact trivial | refine ⟨?_, ?_⟩) rfl rfl (by repeat' first | exact trivial | refine ⟨?_, ?_⟩) (fun _ => ⟨by simp [V.flat, V.flatA, V.flatC, D.flat], flat_nil⟩) ⟨rfl, rfl, rfl⟩
        · have h := if_bf h hc171
          refine aw_skip ?_
          refine aw_weak (weak_ofP [] (l := [(0, .d (.sl false (code_.map eIntu8))), (1, .d (.sl false (more_.map eIntu8))), (5, .d (.cx .f32 x78.re x78.im)), (6, .d (.cx .f32 x80.re x80.im)), (7, .d (.cx .f32 x81.re x81.im))]) (objs := []) rfl (by simp) rfl (by repeat' first | exact trivial | refine ⟨?_, ?_⟩) ⟨rfl, trivial, rfl, trivial, rfl, trivial, rfl, trivial, rfl, trivial, trivial⟩) ?_
          exact hk157 () h
      · refine aw_seq ?_
        refine aw_region ?_
        refine awl_val hτ rfl rfl rfl ?_
        refine awl_val hτ rfl rfl rfl ?_
        refine awl_val hτ rfl rfl rfl ?_
        refine awl_val hτ rfl rfl rfl ?_
        refine awl_val hτ rfl rfl rfl ?_
        refine awl_val hτ rfl rfl rfl ?_
        refine awl_val hτ rfl rfl rfl ?_
        refine awl_val hτ rfl rfl rfl ?_
        refine awl_weak (weak_ofP [] (l := [(0, .d (.sl false (code_.map eIntu8))), (1, .d (.sl false (more_.map eIntu8))), (5, .d (.cx .f32 x78.re x78.im)), (6, .d (.cx .f32 x80.re x80.im)), (7, .d (.cx .f32 x81.re x81.im)), (10, .d (.int .i64 (w64 ((w64 (x90 * x91)) + (w64 (x92 * x93)))))), (87, .d (.bool (!(fcmp .eql .f32 x81.re (FloatKind.nearest .f32 (w64 ((w64 (x82 * x83)) - (w64 (x84 * x85))))) && fcmp .eql .f32 x81.im (FloatKind.nearest .f32 (w64 ((w64 (x86 * x87)) + (w64 (x88 * x89)))))))))]) (objs := []) rfl (by simp) rfl (by repeat' first | exact trivial | refine ⟨?_, ?_⟩) ⟨rfl, trivial, rfl, trivial, rfl, trivial, rfl, trivial, rfl, trivial, rfl, trivial, rfl, trivial, trivial⟩) ?_
        refine awl_split 87 rfl (fun hb173 => ?_) (fun hb173 => ?_)
        · have hb173 := not_t hb173
          have h := if_bf h hb173
          refine awl_skip rfl rfl ?_
          refine awl_skip rfl rfl ?_
          refine awl_skip rfl rfl ?_
          refine awl_skip rfl rfl ?_
          refine awl_skip rfl rfl ?_
          refine awl_val hτ rfl rfl rfl ?_
          refine awl_val hτ rfl rfl rfl ?_
          refine awl_skip rfl rfl ?_
          refine awl_skip rfl rfl ?_
          refine awl_skip rfl rfl ?_
          refine awl_skip rfl rfl ?_
          refine awl_skip rfl rfl ?_
          refine awl_weak (weak_ofP [] (l := [(0, .d (.sl false (code_.map eIntu8))), (1, .d (.sl false (more_.map eIntu8))), (5, .d (.cx .f32 x78.re x78.im)), (6, .d (.cx .f32 x80.re x80.im)), (7, .d (.cx .f32 x81.re x81.im)), (10, .d (.int .i64 (w64 ((w64 (x90 * x91)) + (w64 (x92 * x93)))))), (94, .d (.bool true)), (99, .und)]) (objs := []) rfl (by simp) rfl (by repeat' first | exact trivial | refine ⟨?_, ?_⟩) ⟨rfl, trivial, rfl, trivial, rfl, trivial, rfl, trivial, rfl, trivial, rfl, trivial, rfl, trivial, rfl, trivial, trivial⟩) ?_
          refine awl_val hτ rfl rfl rfl ?_
          refine awl_val hτ rfl rfl rfl ?_
          refine awl_skip rfl rfl ?_
          refine awl_skip rfl rfl ?_
          refine awl_skip rfl rfl ?_
          refine awl_skip rfl rfl ?_
          refine awl_skip rfl rfl ?_
          refine awl_skip rfl rfl ?_
          refine awl_skip rfl rfl ?_
          refine awl_skip rfl rfl ?_
          refine awl_val hτ rfl rfl rfl ?_
          refine awl_val hτ rfl rfl rfl ?_
          refine awl_weak (weak_ofP [] (l := [(0, .d (.sl false (code_.map eIntu8))), (1, .d (.sl false (more_.map eIntu8))), (5, .d (.cx .f32 x78.re x78.im)), (6, .d (.cx .f32 x80.re x80.im)), (7, .d (.cx .f32 x81.re x81.im)), (10, .d (.int .i64 (w64 ((w64 (x90 * x91)) + (w64 (x92 * x93)))))), (111, .d (.bool true))]) (objs := []) rfl (by simp) rfl (by repeat' first | exact trivial | refine ⟨?_, ?_⟩) ⟨rfl, trivial, rfl, trivial, rfl, trivial, rfl, trivial, rfl, trivial, rfl, trivial, rfl, trivial, trivial⟩) ?_
          refine awl_skip rfl rfl ?_
          refine awl_skip rfl rfl ?_
          refine awl_skip rfl rfl ?_
          refine awl_skip rfl rfl ?_
          refine awl_skip rfl rfl ?_
          refine awl_skip rfl rfl ?_
          refine awl_skip rfl rfl ?_
          refine awl_val hτ rfl rfl rfl ?_
          refine awl_nil ?_
          refine aw_weak (weak_ofP [] (l := [(0, .d (.sl false (code_.map eIntu8))), (1, .d (.sl false (more_.map eIntu8))), (5, .d (.cx .f32 x78.re x78.im)), (6, .d (.cx .f32 x80.re x80.im)), (7, .d (.cx .f32 x81.re x81.im)), (119, .d (.bool true))]) (objs := []) rfl (by simp) rfl (by repeat' first | exact trivial | refine ⟨?_, ?_⟩) ⟨rfl, trivial, rfl, trivial, rfl, trivial, rfl, trivial, rfl, trivial, rfl, trivial, trivial⟩) ?_
          exact hk172 true h
        · have hb173 := not_f hb173
          have h := if_bt h hb173
          refine awl_val hτ rfl rfl rfl ?_
          refine awl_val hτ rfl rfl rfl ?_
          refine bnd_elim h fun x174 hx174 h => ?_
          refine awl_callP hτ false [] rfl rfl rfl (enterOk func8 rfl rfl) rfl rfl (by simp) ⟨trivial, trivial, trivial⟩ (by repeat' first | exact trivial | refine ⟨?_, ?_⟩) (impl_MulComplex_ok n x80 x78 hx174) ?_
          rintro r0 o0 n0 ⟨rfl, rfl, rfl⟩ -
          refine awl_val hτ rfl rfl rfl ?_
          refine awl_val hτ rfl rfl rfl ?_
          refine awl_val hτ rfl rfl rfl ?_
          refine awl_val hτ rfl rfl rfl ?_
          refine awl_split 94 rfl (fun hb175 => ?_) (fun hb175 => ?_)
          · have hb175 := not_t hb175
            have h := if_bf h hb175
            refine awl_skip rfl rfl ?_
            refine awl_skip rfl rfl ?_
            refine awl_skip rfl rfl ?_
            refine awl_skip rfl rfl ?_
            refine awl_skip rfl rfl ?_
            refine awl_weak (weak_ofP [] (l := [(0, .d (.sl false (code_.map eIntu8))), (1, .d (.sl false (more_.map eIntu8))), (5, .d (.cx .f32 x78.re x78.im)), (6, .d (.cx .f32 x80.re x80.im)), (7, .d (.cx .f32 x81.re x81.im)), (10, .d (.int .i64 (w64 ((w64 (x90 * x91)) + (w64 (x92 * x93)))))), (94, .d (.bool true)), (99, .und)]) (objs := []) rfl (by simp) rfl (by repeat' first | exact trivial | refine ⟨?_, ?_⟩) ⟨rfl, trivial, rfl, trivial, rfl, trivial, rfl, trivial, rfl, trivial, rfl, trivial, rfl, trivial, rfl, trivial, trivial⟩) ?_
            refine awl_val hτ rfl rfl rfl ?_
            refine awl_val hτ rfl rfl rfl ?_
            refine awl_skip rfl rfl ?_
            refine awl_skip rfl rfl ?_
            refine awl_skip rfl rfl ?_
            refine awl_skip rfl rfl ?_
            refine awl_skip rfl rfl ?_
            refine awl_skip rfl rfl ?_
            refine awl_skip rfl rfl ?_
            refine awl_skip rfl rfl ?_
            refine awl_val hτ rfl rfl rfl ?_
            refine awl_val hτ rfl rfl rfl ?_
            refine awl_weak (weak_ofP [] (l := [(0, .d (.sl false (code_.map eIntu8))), (1, .d (.sl false (more_.map eIntu8))), (5, .d (.cx .f32 x78.re x78.im)), (6, .d (.cx .f32 x80.re x80.im)), (7, .d (.cx .f32 x81.re x81.im)), (10, .d (.int .i64 (w64 ((w64 (x90 * x91)) + (w64 (x92 * x93)))))), (111, .d (.bool true))]) (objs := []) rfl (by simp) rfl (by repeat' first | exact trivial | refine ⟨?_, ?_⟩) ⟨rfl, trivial, rfl, trivial, rfl, trivial, rfl, trivial, rfl, trivial, rfl, trivial, rfl, trivial, trivial⟩) ?_
            refine awl_skip rfl rfl ?_
            refine awl_skip rfl rfl ?_
            refine awl_skip rfl rfl ?_
            refine awl_skip rfl rfl ?_
            refine awl_skip rfl rfl ?_
            refine awl_skip rfl rfl ?_
            refine awl_skip rfl rfl ?_
            refine awl_val hτ rfl rfl rfl ?_
            refine awl_nil ?_
            refine aw_weak (weak_ofP [] (l := [(0, .d (.sl false (code_.map eIntu8))), (1, .d (.sl false (more_.map eIntu8))), (5, .d (.cx .f32 x78.re x78.im)), (6, .d (.cx .f32 x80.re x80.im)), (7, .d (.cx .f32 x81.re x81.im)), (119, .d (.bool true))]) (objs := []) rfl (by simp) rfl (by repeat' first | exact trivial | refine ⟨?_, ?_⟩) ⟨rfl, trivial, rfl, trivial, rfl, trivial, rfl, trivial, rfl, trivial, rfl, trivial, trivial⟩) ?_
            exact hk172 true h
          · have hb175 := not_f hb175
            have h := if_bt h hb175
            refine awl_val hτ rfl rfl rfl ?_
            refine bnd_elim h fun x176 hx176 h => ?_
            refine awl_callP hτ false [] rfl rfl rfl (enterOk func9 rfl rfl) rfl rfl (by simp) ⟨trivial, trivial⟩ (by repeat' first | exact trivial | refine ⟨?_, ?_⟩) (impl_PowerOf_ok n x78 hx176) ?_
            rintro r0 o0 n0 ⟨rfl, rfl, rfl⟩ -
            refine awl_val hτ rfl rfl rfl ?_
            refine awl_val hτ rfl rfl rfl ?_
            refine awl_val hτ rfl rfl rfl ?_
            refine awl_weak (weak_ofP [] (l := [(0, .d (.sl false (code_.map eIntu8))), (1, .d (.sl false (more_.map eIntu8))), (5, .d (.cx .f32 x78.re x78.im)), (6, .d (.cx .f32 x80.re x80.im)), (7, .d (.cx .f32 x81.re x81.im)), (10, .d (.int .i64 (w64 ((w64 (x90 * x91)) + (w64 (x92 * x93)))))), (94, .d (.bool false)), (99, .d (.bool (fcmp .neq .f32 x176 (FloatKind.nearest .f32 (w64 ((w64 (x90 * x91)) + (w64 (x92 * x93))))))))]) (objs := []) rfl (by simp) rfl (by repeat' first | exact trivial | refine ⟨?_, ?_⟩) ⟨rfl, trivial, rfl, trivial, rfl, trivial, rfl, trivial, rfl, trivial, rfl, trivial, rfl, trivial, rfl, trivial, trivial⟩) ?_
            refine awl_val hτ rfl rfl rfl ?_
            refine awl_val hτ rfl rfl rfl ?_
            refine awl_split 101 rfl (fun hb177 => ?_) (fun hb177 => ?_)
            · have h := if_bt h hb177
              refine awl_skip rfl rfl ?_
              refine awl_skip rfl rfl ?_
              refine awl_skip rfl rfl ?_
              refine awl_skip rfl rfl ?_
              refine awl_skip rfl rfl ?_
              refine awl_skip rfl rfl ?_
              refine awl_skip rfl rfl ?_
              refine awl_skip rfl rfl ?_
              refine awl_val hτ rfl rfl rfl ?_
              refine awl_val hτ rfl rfl rfl ?_
              refine awl_weak (weak_ofP [] (l := [(0, .d (.sl false (code_.map eIntu8))), (1, .d (.sl false (more_.map eIntu8))), (5, .d (.cx .f32 x78.re x78.im)), (6, .d (.cx .f32 x80.re x80.im)), (7, .d (.cx .f32 x81.re x81.im)), (10, .d (.int .i64 (w64 ((w64 (x90 * x91)) + (w64 (x92 * x93)))))), (111, .d (.bool true))]) (objs := []) rfl (by simp) rfl (by repeat' first | exact trivial | refine ⟨?_, ?_⟩) ⟨rfl, trivial, rfl, trivial, rfl, trivial, rfl, trivial, rfl, trivial, rfl, trivial, rfl, trivial, trivial⟩) ?_
              refine awl_skip rfl rfl ?_
              refine awl_skip rfl rfl ?_
              refine awl_skip rfl rfl ?_
              refine awl_skip rfl rfl ?_
              refine awl_skip rfl rfl ?_
              refine awl_skip rfl rfl ?_
              refine awl_skip rfl rfl ?_
              refine awl_val hτ rfl rfl rfl ?_
              refine awl_nil ?_
              refine aw_weak (weak_ofP [] (l := [(0, .d (.sl false (code_.map eIntu8))), (1, .d (.sl false (more_.map eIntu8))), (5, .d (.cx .f32 x78.re x78.im)), (6, .d (.cx .f32 x80.re x80.im)), (7, .d (.cx .f32 x81.re x81.im)), (119, .d (.bool true))]) (objs := []) rfl (by simp) rfl (by repeat' first | exact trivial | refine ⟨?_, ?_⟩) ⟨rfl, trivial, rfl, trivial, rfl, trivial, rfl, trivial, rfl, trivial, rfl, trivial, trivial⟩) ?_
              exact hk172 true h
            · have h := if_bf h hb177
              refine awl_val hτ rfl rfl rfl ?_
              refine awl_val hτ rfl rfl rfl ?_
              refine bnd_elim h fun x178 hx178 h => ?_
              refine awl_callP hτ false [] rfl rfl rfl (enterOk func10 rfl rfl) rfl rfl (by simp) ⟨trivial, trivial⟩ (by repeat' first | exact trivial | refine ⟨?_, ?_⟩) (impl_ConjugateOf_ok n x78 hx178) ?_
              rintro r0 o0 n0 ⟨rfl, rfl, rfl⟩ -
              refine bnd_elim h fun x179 hx179 h => ?_
              refine awl_callP hτ false [] rfl rfl rfl (enterOk func8 rfl rfl) rfl rfl (by simp) ⟨trivial, trivial, trivial⟩ (by repeat' first | exact trivial | refine ⟨?_, ?_⟩) (impl_MulComplex_ok n x78 x178 hx179) ?_
              rintro r0 o0 n0 ⟨rfl, rfl, rfl⟩ -
              refine awl_val hτ rfl rfl rfl ?_
              refine awl_val hτ rfl rfl rfl ?_
              refine awl_val hτ rfl rfl rfl ?_
              refine awl_val hτ rfl rfl rfl ?_
              refine awl_val hτ rfl rfl rfl ?_
              refine awl_val hτ rfl rfl rfl ?_
              refine awl_weak (weak_ofP [] (l := [(0, .d (.sl false (code_.map eIntu8))), (1, .d (.sl false (more_.map eIntu8))), (5, .d (.cx .f32 x78.re x78.im)), (6, .d (.cx .f32 x80.re x80.im)), (7, .d (.cx .f32 x81.re x81.im)), (10, .d (.int .i64 (w64 ((w64 (x90 * x91)) + (w64 (x92 * x93)))))), (111, .d (.bool (!(fcmp .eql .f32 x179.re (FloatKind.nearest .f32 (w64 ((w64 (x90 * x91)) + (w64 (x92 * x93))))) && fcmp .eql .f32 x179.im (0 : Nat)))))]) (objs := []) rfl (by simp) rfl (by repeat' first | exact trivial | refine ⟨?_, ?_⟩) ⟨rfl, trivial, rfl, trivial, rfl, trivial, rfl, trivial, rfl, trivial, rfl, trivial, rfl, trivial, trivial⟩) ?_
              refine awl_split 111 rfl (fun hb180 => ?_) (fun hb180 => ?_)
              · have hb180 := not_t hb180
                have h := if_bf h hb180
                refine awl_skip rfl rfl ?_
                refine awl_skip rfl rfl ?_
                refine awl_skip rfl rfl ?_
                refine awl_skip rfl rfl ?_
                refine awl_skip rfl rfl ?_
                refine awl_skip rfl rfl ?_
                refine awl_skip rfl rfl ?_
                refine awl_val hτ rfl rfl rfl ?_
                refine awl_nil ?_
                refine aw_weak (weak_ofP [] (l := [(0, .d (.sl false (code_.map eIntu8))), (1, .d (.sl false (more_.map eIntu8))), (5, .d (.cx .f32 x78.re x78.im)), (6, .d (.cx .f32 x80.re x80.im)), (7, .d (.cx .f32 x81.re x81.im)), (119, .d (.bool true))]) (objs := []) rfl (by simp) rfl (by repeat' first | exact trivial | refine ⟨?_, ?_⟩) ⟨rfl, trivial, rfl, trivial, rfl, trivial, rfl, trivial, rfl, trivial, rfl, trivial, trivial⟩) ?_
                exact hk172 true h
              · have hb180 := not_f hb180
                have h := if_bt h hb180
                refine awl_val hτ rfl rfl rfl ?_
                refine bnd_elim h fun x181 hx181 h => ?_
                refine awl_callP hτ false [] rfl rfl rfl (enterOk func12 rfl rfl) rfl rfl (by simp) ⟨trivial, trivial⟩ (by repeat' first | exact trivial | refine ⟨?_, ?_⟩) (impl_LongOf_ok n x78 hx181) ?_
                rintro r0 o0 n0 ⟨rfl, rfl, rfl⟩ -
                refine awl_val hτ rfl rfl rfl ?_
                refine awl_val hτ rfl rfl rfl ?_
                refine bnd_elim h fun x182 hx182 h => ?_
                refine awl_callP hτ false [] rfl rfl rfl (enterOk func13 rfl rfl) rfl rfl (by simp) ⟨trivial, trivial⟩ (by repeat' first | exact trivial | refine ⟨?_, ?_⟩) (spec_RootNumber_ok n (FloatKind.nearest .f32 (w64 ((w64 (x90 * x91)) + (w64 (x92 * x93))))) hx182) ?_
                rintro r0 o0 n0 ⟨rfl, rfl, rfl⟩ -
                refine bnd_elim h fun x183 hx183 h => ?_
                refine awl_callP hτ false [] rfl rfl rfl (enterOk func11 rfl rfl) rfl rfl (by simp) ⟨trivial, trivial, trivial⟩ (by repeat' first | exact trivial | refine ⟨?_, ?_⟩) (spec_SameNumber_ok n x181 x182 hx183) ?_
                rintro r0 o0 n0 ⟨rfl, rfl, rfl⟩ -
                refine awl_val hτ rfl rfl rfl ?_
                refine awl_val hτ rfl rfl rfl ?_
                refine awl_nil ?_
                refine aw_weak (weak_ofP [] (l := [(0, .d (.sl false (code_.map eIntu8))), (1, .d (.sl false (more_.map eIntu8))), (5, .d (.cx .f32 x78.re x78.im)), (6, .d (.cx .f32 x80.re x80.im)), (7, .d (.cx .f32 x81.re x81.im)), (119, .d (.bool (!x183)))]) (objs := []) rfl (by simp) rfl (by repeat' first | exact trivial | refine ⟨?_, ?_⟩) ⟨rfl, trivial, rfl, trivial, rfl, trivial, rfl, trivial, rfl, trivial, rfl, trivial, trivial⟩) ?_
                exact hk172 (!x183) h
theorem laws_FnProducts_ok (n : Nat) (code_ : List Int) (more_ : List Int) {r : Bool} (h : m_laws_FnProducts n code_ more_ = some r) : ACall prog false 3 [.d (.sl false (code_.map eIntu8)), .d (.sl false (more_.map eIntu8))] [] (fun v o new => v = .d (.bool r) ∧ o = [] ∧ new = []) := laws_FnProducts_ok_fr0 false n code_ more_ h
theorem laws_FnProducts_ok_fr (n : Nat) (code_ : List Int) (more_ : List Int) {r : Bool} (h : m_laws_FnProducts n code_ more_ = some r) : ACall prog true 3 [.d (.sl false (code_.map eIntu8)), .d (.sl false (more_.map eIntu8))] [] (fun v o new => v = .d (.bool r) ∧ o = [] ∧ new = []) := laws_FnProducts_ok_fr0 true n code_ more_ h

def m_impl_abs (n : Nat) (x_ : Nat) : Option Nat :=
  grd (isnan .f32 x_ = false) <|
  grd ((ibits .andNot .u32 (x_ : Int) (2147483648 : Int)).toNat < 4294967296) <|
  some (canon .f32 (ibits .andNot .u32 (x_ : Int) (2147483648 : Int)).toNat)
theorem impl_abs_ok_fr0 (fr : Bool) (n : Nat) (x_ : Nat) {r : Nat} (h : m_impl_abs n x_ = some r) : ACall prog fr 72 [.d (.fl .f32 x_)] [] (fun v o new => v = .d (.fl .f32 r) ∧ o = [] ∧ new = []) := by
  refine acall_of_aw hτ func72 rfl (by simp) (by simp) ?_
  unfold m_impl_abs at h
  refine aw_seq ?_
  refine aw_region ?_
  refine awl_val hτ rfl rfl rfl ?_
  refine awl_nil ?_
  refine aw_seq ?_
  refine aw_region ?_
  refine awl_val hτ rfl rfl rfl ?_
  refine grd_elim h fun hg3 h => ?_
  refine awl_ext hτ rfl rfl rfl (ext62 hg3) ?_
  refine awl_val hτ rfl rfl rfl ?_
  refine grd_elim h fun hg4 h => ?_
  refine awl_ext hτ rfl rfl rfl (ext60 hg4) ?_
  refine awl_val hτ rfl rfl rfl ?_
  refine awl_nil ?_
  refine aw_weak (weak_ofP [] (l := [(2, .d (.fl .f32 (canon .f32 (ibits .andNot .u32 (x_ : Int) (2147483648 : Int)).toNat)))]) (objs := []) rfl (by simp) rfl (by repeat' first | exact trivial | refine ⟨?_, ?_⟩) ⟨rfl, trivial, trivial⟩) ?_
  refine aw_ret ?_
  have hr := Option.some.inj h
  subst hr
  exact ret_objs (.inr rfl) [] (objs' := []) (new := []) rfl (by simp) (by simp) rfl (by repeat' first | exact trivial | refine ⟨?_, ?_⟩) rfl rfl (by repeat' first | exact trivial | refine ⟨?_, ?_⟩) (fun _ => ⟨by simp [V.flat, V.flatA, V.flatC, D.flat], flat_nil⟩) ⟨rfl, rfl, rfl⟩
theorem impl_abs_ok (n : Nat) (x_ : Nat) {r : Nat} (h : m_impl_abs n x_ = some r) : ACall prog false 72 [.d (.fl .f32 x_)] [] (fun v o new => v = .d (.fl .f32 r) ∧ o = [] ∧ new = []) := impl_abs_ok_fr0 false n x_ h
theorem impl_abs_ok_fr (n : Nat) (x_ : Nat) {r : Nat} (h : m_impl_abs n x_ = some r) : ACall prog true 72 [.d (.fl .f32 x_)] [] (fun v o new => v = .d (.fl .f32 r) ∧ o = [] ∧ new = []) := impl_abs_ok_fr0 true n x_ h

def m_impl_IsSubnormal (n : Nat) (x_ : Nat) : Option Bool :=
  if (fcmp .neq .f32 x_ (0 : Nat)) = true then
    (m_impl_abs n x_).bind fun x5 =>
    some (fcmp .lss .f32 x5 (8388608 : Nat))
  else
    some false
theorem impl_IsSubnormal_ok_fr0 (fr : Bool) (n : Nat) (x_ : Nat) {r : Bool} (h : m_impl_IsSubnormal n x_ = some r) : ACall prog fr 34 [.d (.fl .f32 x_)] [] (fun v o new => v = .d (.bool r) ∧ o = [] ∧ new = []) := by
  refine acall_of_aw hτ func34 rfl (by simp) (by simp) ?_
  unfold m_impl_IsSubnormal at h
  refine aw_seq ?_
  refine aw_region ?_
  refine awl_val hτ rfl rfl rfl ?_
  refine awl_nil ?_
  refine aw_seq ?_
  refine aw_region ?_
  refine awl_val hτ rfl rfl rfl ?_
  refine awl_val hτ rfl rfl rfl ?_
  refine awl_val hτ rfl rfl rfl ?_
  refine awl_split 5 rfl (fun hb4 => ?_) (fun hb4 => ?_)
  · have h := if_bt h hb4
    refine awl_val hτ rfl rfl rfl ?_
    refine bnd_elim h fun x5 hx5 h => ?_
    refine awl_callP hτ false [] rfl rfl rfl (enterOk func72 rfl rfl) rfl rfl (by simp) ⟨trivial, trivial⟩ (by repeat' first | exact trivial | refine ⟨?_, ?_⟩) (impl_abs_ok n x_ hx5) ?_
    rintro r0 o0 n0 ⟨rfl, rfl, rfl⟩ -
    refine awl_val hτ rfl rfl rfl ?_
    refine awl_val hτ rfl rfl rfl ?_
    refine awl_val hτ rfl rfl rfl ?_
    refine awl_nil ?_
    refine aw_weak (weak_ofP [] (l := [(2, .d (.bool (fcmp .lss .f32 x5 (8388608 : Nat))))]) (objs := []) rfl (by simp) rfl (by repeat' first | exact trivial | refine ⟨?_, ?_⟩) ⟨rfl, trivial, trivial⟩) ?_
    refine aw_ret ?_
    have hr := Option.some.inj h
    subst hr
    exact ret_objs (.inr rfl) [] (objs' := []) (new := []) rfl (by simp) (by simp) rfl (by repeat' first | exact trivial | refine ⟨?_, ?_⟩) rfl rfl (by repeat' first | exact trivial | refine ⟨?_, ?_⟩) (fun _ => ⟨by simp [V.flat, V.flatA, V.flatC, D.flat], flat_nil⟩) ⟨rfl, rfl, rfl⟩
  · have h := if_bf h hb4
    refine awl_skip rfl rfl ?_
    refine awl_skip rfl rfl ?_
    refine awl_skip rfl rfl ?_
    refine awl_val hτ rfl rfl rfl ?_
    refine awl_val hτ rfl rfl rfl ?_
    refine awl_nil ?_
    refine aw_weak (weak_ofP [] (l := [(2, .d (.bool false))]) (objs := []) rfl (by simp) rfl (by repeat' first | exact trivial | refine ⟨?_, ?_⟩) ⟨rfl, trivial, trivial⟩) ?_
    refine aw_ret ?_
    have hr := Option.some.inj h
    subst hr
    exact ret_objs (.inr rfl) [] (objs' := []) (new := []) rfl (by simp) (by simp) rfl (by repeat' first | exact trivial | refine ⟨?_, ?_⟩) rfl rfl (by repeat' first | exact trivial | refine ⟨?_, ?_⟩) (fun _ => ⟨by simp [V.flat, V.flatA, V.flatC, D.flat], flat_nil⟩) ⟨rfl, rfl, rfl⟩
theorem impl_IsSubnormal_ok (n : Nat) (x_ : Nat) {r : Bool} (h : m_impl_IsSubnormal n x_ = some r) : ACall prog false 34 [.d (.fl .f32 x_)] [] (fun v o new => v = .d (.bool r) ∧ o = [] ∧ new = []) := impl_IsSubnormal_ok_fr0 false n x_ h
theorem impl_IsSubnormal_ok_fr (n : Nat) (x_ : Nat) {r : Bool} (h : m_impl_IsSubnormal n x_ = some r) : ACall prog true 34 [.d (.fl .f32 x_)] [] (fun v o new => v = .d (.bool r) ∧ o = [] ∧ new = []) := impl_IsSubnormal_ok_fr0 true n x_ h

def m_impl_FlushNumber (n : Nat) (x_ : Nat) : Option Nat :=
  (m_impl_IsSubnormal n x_).bind fun x4 =>
  if x4 = true then
    grd (isnan .f32 x_ = false) <|
    grd ((ibits .and .u32 (x_ : Int) (2147483648 : Int)).toNat < 4294967296) <|
    some (canon .f32 (ibits .and .u32 (x_ : Int) (2147483648 : Int)).toNat)
  else
    some x_
theorem impl_FlushNumber_ok_fr0 (fr : Bool) (n : Nat) (x_ : Nat) {r : Nat} (h : m_impl_FlushNumber n x_ = some r) : ACall prog fr 29 [.d (.fl .f32 x_)] [] (fun v o new => v = .d (.fl .f32 r) ∧ o = [] ∧ new = []) := by
  refine acall_of_aw hτ func29 rfl (by simp) (by simp) ?_
  unfold m_impl_FlushNumber at h
  refine aw_seq ?_
  refine aw_region ?_
  refine awl_val hτ rfl rfl rfl ?_
  refine awl_nil ?_
  refine aw_seq ?_
  refine aw_seq ?_
  refine aw_region ?_
  refine awl_val hτ rfl rfl rfl ?_
  refine bnd_elim h fun x4 hx4 h => ?_
  refine awl_callP hτ false [] rfl rfl rfl (enterOk func34 rfl rfl) rfl rfl (by simp) ⟨trivial, trivial⟩ (by repeat' first | exact trivial | refine ⟨?_, ?_⟩) (impl_IsSubnormal_ok n x_ hx4) ?_
  rintro r0 o0 n0 ⟨rfl, rfl, rfl⟩ -
  refine awl_nil ?_
  refine aw_cond rfl (fun hc5 => ?_) (fun hc5 => ?_)
  · have h := if_bt h hc5
    refine aw_seq ?_
    refine aw_region ?_
    refine awl_val hτ rfl rfl rfl ?_
    refine grd_elim h fun hg6 h => ?_
    refine awl_ext hτ rfl rfl rfl (ext62 hg6) ?_
    refine awl_val hτ rfl rfl rfl ?_
    refine grd_elim h fun hg7 h => ?_
    refine awl_ext hτ rfl rfl rfl (ext60 hg7) ?_
    refine awl_val hτ rfl rfl rfl ?_
    refine awl_nil ?_
    refine aw_weak (weak_ofP [] (l := [(2, .d (.fl .f32 (canon .f32 (ibits .and .u32 (x_ : Int) (2147483648 : Int)).toNat)))]) (objs := []) rfl (by simp) rfl (by repeat' first | exact trivial | refine ⟨?_, ?_⟩) ⟨rfl, trivial, trivial⟩) ?_
    refine aw_ret ?_
    have hr := Option.some.inj h
    subst hr
    exact ret_objs (.inr rfl) [] (objs' := []) (new := []) rfl (by simp) (by simp) rfl (by repeat' first | exact trivial | refine ⟨?_, ?_⟩) rfl rfl (by repeat' first | exact trivial | refine ⟨?_, ?_⟩) (fun _ => ⟨by simp [V.flat, V.flatA, V.flatC, D.flat], flat_nil⟩) ⟨rfl, rfl, rfl⟩
  · have h := if_bf h hc5
    refine aw_skip ?_
    refine aw_seq ?_
    refine aw_region ?_
    refine awl_val hτ rfl rfl rfl ?_
    refine awl_val hτ rfl rfl rfl ?_
    refine awl_nil ?_
    refine aw_weak (weak_ofP [] (l := [(2, .d (.fl .f32 x_))]) (objs := []) rfl (by simp) rfl (by repeat' first | exact trivial | refine ⟨?_, ?_⟩) ⟨rfl, trivial, trivial⟩) ?_
    refine aw_ret ?_
    have hr := Option.some.inj h
    subst hr
    exact ret_objs (.inr rfl) [] (objs' := []) (new := []) rfl (by simp) (by simp) rfl (by repeat' first | exact trivial | refine ⟨?_, ?_⟩) rfl rfl (by repeat' first | exact trivial | refine ⟨?_, ?_⟩) (fun _ => ⟨by simp [V.flat, V.flatA, V.flatC, D.flat], flat_nil⟩) ⟨rfl, rfl, rfl⟩
theorem impl_FlushNumber_ok (n : Nat) (x_ : Nat) {r : Nat} (h : m_impl_FlushNumber n x_ = some r) : ACall prog false 29 [.d (.fl .f32 x_)] [] (fun v o new => v = .d (.fl .f32 r) ∧ o = [] ∧ new = []) := impl_FlushNumber_ok_fr0 false n x_ h
theorem impl_FlushNumber_ok_fr (n : Nat) (x_ : Nat) {r : Nat} (h : m_impl_FlushNumber n x_ = some r) : ACall prog true 29 [.d (.fl .f32 x_)] [] (fun v o new => v = .d (.fl .f32 r) ∧ o = [] ∧ new = []) := impl_FlushNumber_ok_fr0 true n x_ h

def m_spec_l01DrawFloats_j2 (n : Nat) (k56 : List Int → Int → Int → Int → List Nat → Option (List Nat × SL00Src)) (v40 : Int) (v66 : List Int) (v67 : Int) (v68 : Int) (v69 : List Nat) : Option (List Nat × SL00Src) :=
  k56 v66 v67 v68 (w64 (v40 - (1 : Int))) v69
def m_spec_l01DrawFloats_l1 (n : Nat) (x28 : Bool × SL00Src) : Nat → List Int → Int → Int → Int → List Nat → Option (List Nat × SL00Src)
  | 0, _, _, _, _, _ => none
  | m55 + 1, v37, v38, v39, v40, v41 =>
    if v40 > (0 : Int) then
      if x28.1 = true then
        (m_spec_l01DrawFloat n (SL00Src.mk v37 v38 v39)).bind fun x72 =>
        grd (room (v41.length + 1) 4) <|
        m_spec_l01DrawFloats_j2 n (m_spec_l01DrawFloats_l1 n x28 m55) v40 x72.2.code x72.2.at_ x72.2.seed (v41 ++ [x72.1])
      else
        (m_spec_l01DrawPlain n (SL00Src.mk v37 v38 v39)).bind fun x74 =>
        grd (room (v41.length + 1) 4) <|
        m_spec_l01DrawFloats_j2 n (m_spec_l01DrawFloats_l1 n x28 m55) v40 x74.2.code x74.2.at_ x74.2.seed (v41 ++ [x74.1])
    else
      some (v41, (SL00Src.mk v37 v38 v39))
def m_spec_l01DrawFloats (n : Nat) (s_ : SL00Src) (n_ : Int) : Option (List Nat × SL00Src) :=
  (m_spec_l00Src_one n s_ (4 : Int)).bind fun x28 =>
  m_spec_l01DrawFloats_l1 n x28 n x28.2.code x28.2.at_ x28.2.seed n_ ([] : List Nat)
theorem spec_l01DrawFloats_ok (n : Nat) (s_ : SL00Src) (n_ : Int) {r : List Nat × SL00Src} (h : m_spec_l01DrawFloats n s_ n_ = some r) : ACall prog false 69 [.ptr 0 0, .d (.int .i64 n_)] [.box [.d (.sl false (s_.code.map eIntu8)), .d (.int .i64 s_.at_), .d (.int .u64 s_.seed)]] (fun v o new => v = .row 1 r.1.length 0 r.1.length ∧ o = [.box [.d (.sl false (r.2.code.map eIntu8)), .d (.int .i64 r.2.at_), .d (.int .u64 r.2.seed)]] ∧ new = [.row 1 (r.1.map eNatf32)]) := by
  refine acall_of_aw hτ func69 rfl (by simp) (by simp) ?_
  unfold m_spec_l01DrawFloats at h
  refine aw_seq ?_
  refine aw_region ?_
  refine awl_val hτ rfl rfl rfl ?_
  refine awl_nil ?_
  refine aw_seq ?_
  refine aw_region ?_
  refine awl_valH hτ rfl rfl rfl ?_
  refine awl_val hτ rfl rfl rfl ?_
  refine awl_nil ?_
  refine aw_seq ?_
  refine aw_region ?_
  refine awl_val hτ rfl rfl rfl ?_
  refine bnd_elim h fun x28 hx28 h => ?_
  refine awl_callP hτ false [0] rfl rfl rfl (enterOk func56 rfl rfl) rfl rfl (by simp) ⟨trivial, trivial, trivial⟩ (by repeat' first | exact trivial | refine ⟨?_, ?_⟩) (spec_l00Src_one_ok n s_ (4 : Int) hx28) ?_
  rintro r0 o0 n0 ⟨rfl, rfl, rfl⟩ -
  refine awl_val hτ rfl rfl rfl ?_
  refine awl_nil ?_
  refine aw_seq ?_
  refine aw_block ?_
  refine aw_loop (ι := Nat × List Int × Int × Int × Int × List Nat) (fun (m55, v37, v38, v39, v40, v41) => St.of [(0, .ptr 0 0), (1, .d (.int .i64 v40)), (5, .row 1 v41.length 0 v41.length), (6, .d (.bool x28.1))] [.box [.d (.sl false (v37.map eIntu8)), .d (.int .i64 v38), .d (.int .u64 v39)], .row 1 (v41.map eNatf32)] f69.ntmps 1) (fun (m55, v37, v38, v39, v40, v41) => m_spec_l01DrawFloats_l1 n x28 m55 v37 v38 v39 v40 v41 = some r) (fun x => x.1) (n, x28.2.code, x28.2.at_, x28.2.seed, n_, ([] : List Nat)) h (weak_ofP [0, 1] (l := [(0, .ptr 0 0), (1, .d (.int .i64 n_)), (5, .row 1 (([] : List Nat).length) 0 (([] : List Nat).length)), (6, .d (.bool x28.1))]) (objs := [.box [.d (.sl false (x28.2.code.map eIntu8)), .d (.int .i64 x28.2.at_), .d (.int .u64 x28.2.seed)], .row 1 (([] : List Nat).map eNatf32)]) rfl (by simp) rfl (by repeat' first | exact trivial | refine ⟨?_, ?_⟩) ⟨rfl, trivial, rfl, trivial, rfl, trivial, rfl, trivial, trivial⟩) ?_
  rintro ⟨m55, v37, v38, v39, v40, v41⟩ h
  replace h : m_spec_l01DrawFloats_l1 n x28 m55 v37 v38 v39 v40 v41 = some r := h
  rcases m55 with _ | m55
  · rw [m_spec_l01DrawFloats_l1] at h; cases h
  rw [m_spec_l01DrawFloats_l1] at h
  refine aw_seq ?_
  refine aw_seq ?_
  refine aw_region ?_
  refine awl_val hτ rfl rfl rfl ?_
  refine awl_val hτ rfl rfl rfl ?_
  refine awl_nil ?_
  refine aw_cond rfl (fun hc57 => ?_) (fun hc57 => ?_)
  · have h := if_t h hc57
    refine aw_skip ?_
    refine aw_hk1 (ι := List Int × Int × Int × List Nat) (fun (v66, v67, v68, v69) => St.of [(0, .ptr 0 0), (1, .d (.int .i64 v40)), (5, .row 1 v69.length 0 v69.length), (6, .d (.bool x28.1))] [.box [.d (.sl false (v66.map eIntu8)), .d (.int .i64 v67), .d (.int .u64 v68)], .row 1 (v69.map eNatf32)] f69.ntmps 1) (fun (v66, v67, v68, v69) => m_spec_l01DrawFloats_j2 n (m_spec_l01DrawFloats_l1 n x28 m55) v40 v66 v67 v68 v69 = some r) ?_ (fun hk70 => ?_)
    · rintro ⟨v66, v67, v68, v69⟩ h
      replace h : m_spec_l01DrawFloats_j2 n (m_spec_l01DrawFloats_l1 n x28 m55) v40 v66 v67 v68 v69 = some r := h
      unfold m_spec_l01DrawFloats_j2 at h
      refine aw_region ?_
      refine awl_val hτ rfl rfl rfl ?_
      refine awl_val hτ rfl rfl rfl ?_
      refine awl_val hτ rfl rfl rfl ?_
      refine awl_nil ?_
      exact ⟨(m55, v66, v67, v68, (w64 (v40 - (1 : Int))), v69), h, Nat.lt_succ_self m55, (weak_ofP [0, 1] (l := [(0, .ptr 0 0), (1, .d (.int .i64 (w64 (v40 - (1 : Int))))), (5, .row 1 v69.length 0 v69.length), (6, .d (.bool x28.1))]) (objs := [.box [.d (.sl false (v66.map eIntu8)), .d (.int .i64 v67), .d (.int .u64 v68)], .row 1 (v69.map eNatf32)]) rfl (by simp) rfl (by repeat' first | exact trivial | refine ⟨?_, ?_⟩) ⟨rfl, trivial, rfl, trivial, rfl, trivial, rfl, trivial, trivial⟩)⟩
    · refine aw_seq ?_
      refine aw_block ?_
      refine aw_seq ?_
      refine aw_region ?_
      refine awl_val hτ rfl rfl rfl ?_
      refine awl_nil ?_
      refine aw_cond rfl (fun hc71 => ?_) (fun hc71 => ?_)
      · have h := if_bt h hc71
        refine aw_region ?_
        refine awl_val hτ rfl rfl rfl ?_
        refine awl_val hτ rfl rfl rfl ?_
        refine bnd_elim h fun x72 hx72 h => ?_
        refine awl_callP hτ false [0] rfl rfl rfl (enterOk func58 rfl rfl) rfl rfl (by simp) ⟨trivial, trivial⟩ (by repeat' first | exact trivial | refine ⟨?_, ?_⟩) (spec_l01DrawFloat_ok n (SL00Src.mk v37 v38 v39) hx72) ?_
        rintro r0 o0 n0 ⟨rfl, rfl, rfl⟩ -
        refine awl_valH hτ rfl rfl rfl ?_
        refine grd_elim h fun hg73 h => ?_
        refine awl_needH hτ rfl rfl (Eq.trans rfl (or_append (f := eNatf32) v41 [x72.1] rfl)) ⟨⟨rfl, Nat.le_of_ble_eq_true rfl⟩, len_map _, rfl, rfl, hg73, by decide, (all1 rfl)⟩ ?_
        refine awl_val hτ rfl rfl rfl ?_
        refine awl_nil ?_
        refine aw_weak (weak_ofP [0, 1] (l := [(0, .ptr 0 0), (1, .d (.int .i64 v40)), (5, .row 1 ((v41 ++ [x72.1]).length) 0 ((v41 ++ [x72.1]).length)), (6, .d (.bool x28.1))]) (objs := [.box [.d (.sl false (x72.2.code.map eIntu8)), .d (.int .i64 x72.2.at_), .d (.int .u64 x72.2.seed)], .row 1 ((v41 ++ [x72.1]).map eNatf32)]) rfl (by simp) rfl (by repeat' first | exact trivial | refine ⟨?_, ?_⟩) ⟨rfl, trivial, rfl, trivial, rfl, trivial, rfl, trivial, trivial⟩) ?_
        exact hk70 (x72.2.code, x72.2.at_, x72.2.seed, (v41 ++ [x72.1])) h
      · have h := if_bf h hc71
        refine aw_region ?_
        refine awl_val hτ rfl rfl rfl ?_
        refine awl_val hτ rfl rfl rfl ?_
        refine bnd_elim h fun x74 hx74 h => ?_
        refine awl_callP hτ false [0] rfl rfl rfl (enterOk func94 rfl rfl) rfl rfl (by simp) ⟨trivial, trivial⟩ (by repeat' first | exact trivial | refine ⟨?_, ?_⟩) (spec_l01DrawPlain_ok n (SL00Src.mk v37 v38 v39) hx74) ?_
        rintro r0 o0 n0 ⟨rfl, rfl, rfl⟩ -
        refine awl_valH hτ rfl rfl rfl ?_
        refine grd_elim h fun hg75 h => ?_
        refine awl_needH hτ rfl rfl (Eq.trans rfl (or_append (f := eNatf32) v41 [x74.1] rfl)) ⟨⟨rfl, Nat.le_of_ble_eq_true rfl⟩, len_map _, rfl, rfl, hg75, by decide, (all1 rfl)⟩ ?_
        refine awl_val hτ rfl rfl rfl ?_
        refine awl_nil ?_
        refine aw_weak (weak_ofP [0, 1] (l := [(0, .ptr 0 0), (1, .d (.int .i64 v40)), (5, .row 1 ((v41 ++ [x74.1]).length) 0 ((v41 ++ [x74.1]).length)), (6, .d (.bool x28.1))]) (objs := [.box [.d (.sl false (x74.2.code.map eIntu8)), .d (.int .i64 x74.2.at_), .d (.int .u64 x74.2.seed)], .row 1 ((v41 ++ [x74.1]).map eNatf32)]) rfl (by simp) rfl (by repeat' first | exact trivial | refine ⟨?_, ?_⟩) ⟨rfl, trivial, rfl, trivial, rfl, trivial, rfl, trivial, trivial⟩) ?_
        exact hk70 (x74.2.code, x74.2.at_, x74.2.seed, (v41 ++ [x74.1])) h
  · have h := if_f h hc57
    refine aw_exit ?_
    refine aw_seq ?_
    refine aw_region ?_
    refine awl_val hτ rfl rfl rfl ?_
    refine awl_val hτ rfl rfl rfl ?_
    refine awl_nil ?_
    refine aw_weak (weak_ofP [0, 1] (l := [(4, .row 1 v41.length 0 v41.length)]) (objs := [.box [.d (.sl false (v37.map eIntu8)), .d (.int .i64 v38), .d (.int .u64 v39)], .row 1 (v41.map eNatf32)]) rfl (by simp) rfl (by repeat' first | exact trivial | refine ⟨?_, ?_⟩) ⟨rfl, trivial, trivial⟩) ?_
    refine aw_ret ?_
    have hr := Option.some.inj h
    subst hr
    exact ret_objs (.inr rfl) [1] (objs' := [.box [.d (.sl false (v37.map eIntu8)), .d (.int .i64 v38), .d (.int .u64 v39)]]) (new := [.row 1 (v41.map eNatf32)]) rfl (by simp) (by simp) rfl (by repeat' first | exact trivial | refine ⟨?_, ?_⟩) rfl rfl (by repeat' first | exact trivial | refine ⟨?_, ?_⟩) (fun h => nomatch h) ⟨rfl, rfl, rfl⟩

def m_spec_B10Numbers (n : Nat) (code_ : List Int) (n_ : Int) : Option (List Nat) :=
  (m_spec_l00From n code_).bind fun x3 =>
  (m_spec_l01DrawFloats n x3 n_).bind fun x4 =>
  some x4.1
theorem spec_B10Numbers_ok_fr0 (fr : Bool) (n : Nat) (code_ : List Int) (n_ : Int) {r : List Nat} (h : m_spec_B10Numbers n code_ n_ = some r) : ACall prog fr 30 [.d (.sl false (code_.map eIntu8)), .d (.int .i64 n_)] [] (fun v o new => v = .row 0 r.length 0 r.length ∧ o = [] ∧ new = [.row 1 (r.map eNatf32)]) := by
  refine acall_of_aw hτ func30 rfl (by simp) (by simp) ?_
  unfold m_spec_B10Numbers at h
  refine aw_seq ?_
  refine aw_region ?_
  refine awl_val hτ rfl rfl rfl ?_
  refine awl_nil ?_
  refine aw_seq ?_
  refine aw_region ?_
  refine awl_val hτ rfl rfl rfl ?_
  refine bnd_elim h fun x3 hx3 h => ?_
  refine awl_callP hτ false [] rfl rfl rfl (enterOk func43 rfl rfl) rfl rfl (by simp) ⟨trivial, trivial⟩ (by repeat' first | exact trivial | refine ⟨?_, ?_⟩) (spec_l00From_ok n code_ hx3) ?_
  rintro r0 o0 n0 ⟨rfl, rfl, rfl⟩ -
  refine awl_val hτ rfl rfl rfl ?_
  refine awl_nil ?_
  refine aw_seq ?_
  refine aw_region ?_
  refine awl_val hτ rfl rfl rfl ?_
  refine awl_val hτ rfl rfl rfl ?_
  refine bnd_elim h fun x4 hx4 h => ?_
  refine awl_callP hτ false [0] rfl rfl rfl (enterOk func69 rfl rfl) rfl rfl (by simp) ⟨trivial, trivial, trivial⟩ (by repeat' first | exact trivial | refine ⟨?_, ?_⟩) (spec_l01DrawFloats_ok n x3 n_ hx4) ?_
  rintro r0 o0 n0 ⟨rfl, rfl, rfl⟩ -
  refine awl_val hτ rfl rfl rfl ?_
  refine awl_nil ?_
  refine aw_weak (weak_ofP [1] (l := [(4, .row 0 x4.1.length 0 x4.1.length)]) (objs := [.row 1 (x4.1.map eNatf32)]) rfl (by simp) rfl (by repeat' first | exact trivial | refine ⟨?_, ?_⟩) ⟨rfl, trivial, trivial⟩) ?_
  refine aw_ret ?_
  have hr := Option.some.inj h
  subst hr
  exact ret_objs (.inr rfl) [0] (objs' := []) (new := [.row 1 (x4.1.map eNatf32)]) rfl (by simp) (by simp) rfl (by repeat' first | exact trivial | refine ⟨?_, ?_⟩) rfl rfl (by repeat' first | exact trivial | refine ⟨?_, ?_⟩) (fun _ => ⟨by simp [V.flat, V.flatA, V.flatC, D.flat], (flat_cons (flat_row eNatf32_flat _) flat_nil)⟩) ⟨rfl, rfl, rfl⟩
theorem spec_B10Numbers_ok (n : Nat) (code_ : List Int) (n_ : Int) {r : List Nat} (h : m_spec_B10Numbers n code_ n_ = some r) : ACall prog false 30 [.d (.sl false (code_.map eIntu8)), .d (.int .i64 n_)] [] (fun v o new => v = .row 0 r.length 0 r.length ∧ o = [] ∧ new = [.row 1 (r.map eNatf32)]) := spec_B10Numbers_ok_fr0 false n code_ n_ h
theorem spec_B10Numbers_ok_fr (n : Nat) (code_ : List Int) (n_ : Int) {r : List Nat} (h : m_spec_B10Numbers n code_ n_ = some r) : ACall prog true 30 [.d (.sl false (code_.map eIntu8)), .d (.int .i64 n_)] [] (fun v o new => v = .row 0 r.length 0 r.length ∧ o = [] ∧ new = [.row 1 (r.map eNatf32)]) := spec_B10Numbers_ok_fr0 true n code_ n_ h

def m_impl_listOk (n : Nat) (list_ : List Nat) : Option Bool :=
  some (decide ((list_.length : Int) ≤ (256 : Int)))
theorem impl_listOk_ok_fr0 (fr : Bool) (n : Nat) (list_ : List Nat) {r : Bool} (h : m_impl_listOk n list_ = some r) : ACall prog fr 70 [.d (.sl false (list_.map eNatf32))] [] (fun v o new => v = .d (.bool r) ∧ o = [] ∧ new = []) := by
  refine acall_of_aw hτ func70 rfl (by simp) (by simp) ?_
  unfold m_impl_listOk at h
  refine aw_seq ?_
  refine aw_region ?_
  refine awl_val hτ rfl rfl rfl ?_
  refine awl_nil ?_
  refine aw_seq ?_
  refine aw_region ?_
  refine awl_val hτ rfl rfl rfl ?_
  refine awl_val hτ (v := .d (.int .i64 (list_.length : Int))) rfl rfl (Eq.trans rfl (or_len (f := eNatf32) list_)) ?_
  refine awl_val hτ rfl rfl rfl ?_
  refine awl_val hτ rfl rfl rfl ?_
  refine awl_nil ?_
  refine aw_weak (weak_ofP [] (l := [(2, .d (.bool (decide ((list_.length : Int) ≤ (256 : Int)))))]) (objs := []) rfl (by simp) rfl (by repeat' first | exact trivial | refine ⟨?_, ?_⟩) ⟨rfl, trivial, trivial⟩) ?_
  refine aw_ret ?_
  have hr := Option.some.inj h
  subst hr
  exact ret_objs (.inr rfl) [] (objs' := []) (new := []) rfl (by simp) (by simp) rfl (by repeat' first | exact trivial | refine ⟨?_, ?_⟩) rfl rfl (by repeat' first | exact trivial | refine ⟨?_, ?_⟩) (fun _ => ⟨by simp [V.flat, V.flatA, V.flatC, D.flat], flat_nil⟩) ⟨rfl, rfl, rfl⟩
theorem impl_listOk_ok (n : Nat) (list_ : List Nat) {r : Bool} (h : m_impl_listOk n list_ = some r) : ACall prog false 70 [.d (.sl false (list_.map eNatf32))] [] (fun v o new => v = .d (.bool r) ∧ o = [] ∧ new = []) := impl_listOk_ok_fr0 false n list_ h
theorem impl_listOk_ok_fr (n : Nat) (list_ : List Nat) {r : Bool} (h : m_impl_listOk n list_ = some r) : ACall prog true 70 [.d (.sl false (list_.map eNatf32))] [] (fun v o new => v = .d (.bool r) ∧ o = [] ∧ new = []) := impl_listOk_ok_fr0 true n list_ h

def m_impl_sum_l1 (n : Nat) (list_ : List Nat) : Nat → Nat → Int → Option Nat
  | 0, _, _ => none
  | m13 + 1, v8, v9 =>
    if v9 < (list_.length : Int) then
      (getI list_ v9).bind fun x16 =>
      (m_impl_sum_l1 n list_ m13) (farith .add .f32 v8 x16) (w64 (v9 + (1 : Int)))
    else
      some v8
def m_impl_sum (n : Nat) (list_ : List Nat) : Option Nat :=
  m_impl_sum_l1 n list_ n (0 : Nat) (0 : Int)
theorem impl_sum_ok_fr0 (fr : Bool) (n : Nat) (list_ : List Nat) {r : Nat} (h : m_impl_sum n list_ = some r) : ACall prog fr 71 [.d (.sl false (list_.map eNatf32))] [] (fun v o new => v = .d (.fl .f32 r) ∧ o = [] ∧ new = []) := by
  refine acall_of_aw hτ func71 rfl (by simp) (by simp) ?_
  unfold m_impl_sum at h
  refine aw_seq ?_
  refine aw_region ?_
  refine awl_val hτ rfl rfl rfl ?_
  refine awl_nil ?_
  refine aw_seq ?_
  refine aw_region ?_
  refine awl_val hτ rfl rfl rfl ?_
  refine awl_nil ?_
  refine aw_seq ?_
  refine aw_seq ?_
  refine aw_region ?_
  refine awl_val hτ rfl rfl rfl ?_
  refine awl_val hτ (v := .d (.int .i64 (list_.length : Int))) rfl rfl (Eq.trans rfl (or_len (f := eNatf32) list_)) ?_
  refine awl_val hτ rfl rfl rfl ?_
  refine awl_nil ?_
  refine aw_block ?_
  refine aw_loop (ι := Nat × Nat × Int) (fun (m13, v8, v9) => St.of [(3, .d (.fl .f32 v8)), (6, .d (.sl false (list_.map eNatf32))), (7, .d (.int .i64 (list_.length : Int))), (8, .d (.int .i64 v9))] [] f71.ntmps 0) (fun (m13, v8, v9) => m_impl_sum_l1 n list_ m13 v8 v9 = some r) (fun x => x.1) (n, (0 : Nat), (0 : Int)) h (weak_ofP [] (l := [(3, .d (.fl .f32 (0 : Nat))), (6, .d (.sl false (list_.map eNatf32))), (7, .d (.int .i64 (list_.length : Int))), (8, .d (.int .i64 (0 : Int)))]) (objs := []) rfl (by simp) rfl (by repeat' first | exact trivial | refine ⟨?_, ?_⟩) ⟨rfl, trivial, rfl, trivial, rfl, trivial, rfl, trivial, trivial⟩) ?_
  rintro ⟨m13, v8, v9⟩ h
  replace h : m_impl_sum_l1 n list_ m13 v8 v9 = some r := h
  rcases m13 with _ | m13
  · rw [m_impl_sum_l1] at h; cases h
  rw [m_impl_sum_l1] at h
  refine aw_seq ?_
  refine aw_region ?_
  refine awl_val hτ rfl rfl rfl ?_
  refine awl_nil ?_
  refine aw_seq ?_
  refine aw_cond rfl (fun hc15 => ?_) (fun hc15 => ?_)
  · have h := if_t h hc15
    refine aw_skip ?_
    refine aw_seq ?_
    refine aw_block ?_
    refine aw_seq ?_
    refine aw_region ?_
    refine bnd_elim h fun x16 hx16 h => ?_
    refine awl_elem hτ rfl rfl rfl (getI_some hx16).1 (map_getI hx16) rfl ?_
    refine awl_val hτ rfl rfl rfl ?_
    refine awl_val hτ rfl rfl rfl ?_
    refine awl_nil ?_
    refine aw_region ?_
    refine awl_val hτ rfl rfl rfl ?_
    refine awl_val hτ rfl rfl rfl ?_
    refine awl_val hτ rfl rfl rfl ?_
    refine awl_val hτ rfl rfl rfl ?_
    refine awl_nil ?_
    refine aw_weak (weak_ofP [] (l := [(3, .d (.fl .f32 (farith .add .f32 v8 x16))), (6, .d (.sl false (list_.map eNatf32))), (7, .d (.int .i64 (list_.length : Int))), (8, .d (.int .i64 v9))]) (objs := []) rfl (by simp) rfl (by repeat' first | exact trivial | refine ⟨?_, ?_⟩) ⟨rfl, trivial, rfl, trivial, rfl, trivial, rfl, trivial, trivial⟩) ?_
    refine aw_region ?_
    refine awl_val hτ rfl rfl rfl ?_
    refine awl_val hτ rfl rfl rfl ?_
    refine awl_nil ?_
    exact ⟨(m13, (farith .add .f32 v8 x16), (w64 (v9 + (1 : Int)))), h, Nat.lt_succ_self m13, (weak_ofP [] (l := [(3, .d (.fl .f32 (farith .add .f32 v8 x16))), (6, .d (.sl false (list_.map eNatf32))), (7, .d (.int .i64 (list_.length : Int))), (8, .d (.int .i64 (w64 (v9 + (1 : Int)))))]) (objs := []) rfl (by simp) rfl (by repeat' first | exact trivial | refine ⟨?_, ?_⟩) ⟨rfl, trivial, rfl, trivial, rfl, trivial, rfl, trivial, trivial⟩)⟩
  · have h := if_f h hc15
    refine aw_exit ?_
    refine aw_seq ?_
    refine aw_region ?_
    refine awl_val hτ rfl rfl rfl ?_
    refine awl_val hτ rfl rfl rfl ?_
    refine awl_nil ?_
    refine aw_weak (weak_ofP [] (l := [(2, .d (.fl .f32 v8))]) (objs := []) rfl (by simp) rfl (by repeat' first | exact trivial | refine ⟨?_, ?_⟩) ⟨rfl, trivial, trivial⟩) ?_
    refine aw_ret ?_
    have hr := Option.some.inj h
    subst hr
    exact ret_objs (.inr rfl) [] (objs' := []) (new := []) rfl (by simp) (by simp) rfl (by repeat' first | exact trivial | refine ⟨?_, ?_⟩) rfl rfl (by repeat' first | exact trivial | refine ⟨?_, ?_⟩) (fun _ => ⟨by simp [V.flat, V.flatA, V.flatC, D.flat], flat_nil⟩) ⟨rfl, rfl, rfl⟩
theorem impl_sum_ok (n : Nat) (list_ : List Nat) {r : Nat} (h : m_impl_sum n list_ = some r) : ACall prog false 71 [.d (.sl false (list_.map eNatf32))] [] (fun v o new => v = .d (.fl .f32 r) ∧ o = [] ∧ new = []) := impl_sum_ok_fr0 false n list_ h
theorem impl_sum_ok_fr (n : Nat) (list_ : List Nat) {r : Nat} (h : m_impl_sum n list_ = some r) : ACall prog true 71 [.d (.sl false (list_.map eNatf32))] [] (fun v o new => v = .d (.fl .f32 r) ∧ o = [] ∧ new = []) := impl_sum_ok_fr0 true n list_ h

def m_impl_SumNumbers (n : Nat) (list_ : List Nat) : Option (Nat × Bool) :=
  (m_impl_listOk n list_).bind fun x4 =>
  if x4 = true then
    (m_impl_sum n list_).bind fun x6 =>
    some (x6, true)
  else
    some ((0 : Nat), false)
theorem impl_SumNumbers_ok_fr0 (fr : Bool) (n : Nat) (list_ : List Nat) {r : Nat × Bool} (h : m_impl_SumNumbers n list_ = some r) : ACall prog fr 31 [.d (.sl false (list_.map eNatf32))] [] (fun v o new => v = .tup [.d (.fl .f32 r.1), .d (.bool r.2)] ∧ o = [] ∧ new = []) := by
  refine acall_of_aw hτ func31 rfl (by simp) (by simp) ?_
  unfold m_impl_SumNumbers at h
  refine aw_seq ?_
  refine aw_region ?_
  refine awl_val hτ rfl rfl rfl ?_
  refine awl_val hτ rfl rfl rfl ?_
  refine awl_nil ?_
  refine aw_seq ?_
  refine aw_seq ?_
  refine aw_region ?_
  refine awl_val hτ rfl rfl rfl ?_
  refine bnd_elim h fun x4 hx4 h => ?_
  refine awl_callP hτ false [] rfl rfl rfl (enterOk func70 rfl rfl) rfl rfl (by simp) ⟨trivial, trivial⟩ (by repeat' first | exact trivial | refine ⟨?_, ?_⟩) (impl_listOk_ok n list_ hx4) ?_
  rintro r0 o0 n0 ⟨rfl, rfl, rfl⟩ -
  refine awl_val hτ rfl rfl rfl ?_
  refine awl_nil ?_
  refine aw_cond rfl (fun hc5 => ?_) (fun hc5 => ?_)
  · have hc5 := not_t hc5
    have h := if_bf h hc5
    refine aw_seq ?_
    refine aw_region ?_
    refine awl_val hτ rfl rfl rfl ?_
    refine awl_val hτ rfl rfl rfl ?_
    refine awl_nil ?_
    refine aw_weak (weak_ofP [] (l := [(2, .d (.fl .f32 (0 : Nat))), (3, .d (.bool false))]) (objs := []) rfl (by simp) rfl (by repeat' first | exact trivial | refine ⟨?_, ?_⟩) ⟨rfl, trivial, rfl, trivial, trivial⟩) ?_
    refine aw_ret ?_
    have hr := Option.some.inj h
    subst hr
    exact ret_objs (.inr rfl) [] (objs' := []) (new := []) rfl (by simp) (by simp) rfl (by repeat' first | exact trivial | refine ⟨?_, ?_⟩) rfl rfl (by repeat' first | exact trivial | refine ⟨?_, ?_⟩) (fun _ => ⟨by simp [V.flat, V.flatA, V.flatC, D.flat], flat_nil⟩) ⟨rfl, rfl, rfl⟩
  · have hc5 := not_f hc5
    have h := if_bt h hc5
    refine aw_skip ?_
    refine aw_seq ?_
    refine aw_region ?_
    refine awl_val hτ rfl rfl rfl ?_
    refine bnd_elim h fun x6 hx6 h => ?_
    refine awl_callP hτ false [] rfl rfl rfl (enterOk func71 rfl rfl) rfl rfl (by simp) ⟨trivial, trivial⟩ (by repeat' first | exact trivial | refine ⟨?_, ?_⟩) (impl_sum_ok n list_ hx6) ?_
    rintro r0 o0 n0 ⟨rfl, rfl, rfl⟩ -
    refine awl_val hτ rfl rfl rfl ?_
    refine awl_val hτ rfl rfl rfl ?_
    refine awl_nil ?_
    refine aw_weak (weak_ofP [] (l := [(2, .d (.fl .f32 x6)), (3, .d (.bool true))]) (objs := []) rfl (by simp) rfl (by repeat' first | exact trivial | refine ⟨?_, ?_⟩) ⟨rfl, trivial, rfl, trivial, trivial⟩) ?_
    refine aw_ret ?_
    have hr := Option.some.inj h
    subst hr
    exact ret_objs (.inr rfl) [] (objs' := []) (new := []) rfl (by simp) (by simp) rfl (by repeat' first | exact trivial | refine ⟨?_, ?_⟩) rfl rfl (by repeat' first | exact trivial | refine ⟨?_, ?_⟩) (fun _ => ⟨by simp [V.flat, V.flatA, V.flatC, D.flat], flat_nil⟩) ⟨rfl, rfl, rfl⟩
theorem impl_SumNumbers_ok (n : Nat) (list_ : List Nat) {r : Nat × Bool} (h : m_impl_SumNumbers n list_ = some r) : ACall prog false 31 [.d (.sl false (list_.map eNatf32))] [] (fun v o new => v = .tup [.d (.fl .f32 r.1), .d (.bool r.2)] ∧ o = [] ∧ new = []) := impl_SumNumbers_ok_fr0 false n list_ h
theorem impl_SumNumbers_ok_fr (n : Nat) (list_ : List Nat) {r : Nat × Bool} (h : m_impl_SumNumbers n list_ = some r) : ACall prog true 31 [.d (.sl false (list_.map eNatf32))] [] (fun v o new => v = .tup [.d (.fl .f32 r.1), .d (.bool r.2)] ∧ o = [] ∧ new = []) := impl_SumNumbers_ok_fr0 true n list_ h

def m_impl_NumbersText_j1 (n : Nat) (v26 : List Str) : Option (Str × Bool) :=
  (m_impl_joined n v26).bind fun x27 =>
  some (x27, true)
def m_impl_NumbersText_l2 (n : Nat) (list_ : List Nat) : Nat → List Str → Int → Option (Str × Bool)
  | 0, _, _ => none
  | m39 + 1, v32, v33 =>
    if v33 < (list_.length : Int) then
      (getI list_ v33).bind fun x42 =>
      (m_impl_hexText n x42).bind fun x43 =>
      grd (room (v32.length + 1) 16) <|
      (m_impl_NumbersText_l2 n list_ m39) (v32 ++ [x43]) (w64 (v33 + (1 : Int)))
    else
      m_impl_NumbersText_j1 n v32
def m_impl_NumbersText (n : Nat) (list_ : List Nat) : Option (Str × Bool) :=
  (m_impl_listOk n list_).bind fun x14 =>
  if x14 = true then
    m_impl_NumbersText_l2 n list_ n ([] : List Str) (0 : Int)
  else
    some (([] : Str), false)
theorem impl_NumbersText_ok_fr0 (fr : Bool) (n : Nat) (list_ : List Nat) {r : Str × Bool} (h : m_impl_NumbersText n list_ = some r) : ACall prog fr 32 [.d (.sl false (list_.map eNatf32))] [] (fun v o new => v = .tup [.d (.str (bstr r.1)), .d (.bool r.2)] ∧ o = [] ∧ new = []) := by
  refine acall_of_aw hτ func32 rfl (by simp) (by simp) ?_
  unfold m_impl_NumbersText at h
  refine aw_seq ?_
  refine aw_region ?_
  refine awl_val hτ rfl rfl rfl ?_
  refine awl_val hτ rfl rfl rfl ?_
  refine awl_nil ?_
  refine aw_seq ?_
  refine aw_seq ?_
  refine aw_region ?_
  refine awl_val hτ rfl rfl rfl ?_
  refine bnd_elim h fun x14 hx14 h => ?_
  refine awl_callP hτ false [] rfl rfl rfl (enterOk func70 rfl rfl) rfl rfl (by simp) ⟨trivial, trivial⟩ (by repeat' first | exact trivial | refine ⟨?_, ?_⟩) (impl_listOk_ok n list_ hx14) ?_
  rintro r0 o0 n0 ⟨rfl, rfl, rfl⟩ -
  refine awl_val hτ rfl rfl rfl ?_
  refine awl_nil ?_
  refine aw_cond rfl (fun hc15 => ?_) (fun hc15 => ?_)
  · have hc15 := not_t hc15
    have h := if_bf h hc15
    refine aw_seq ?_
    refine aw_region ?_
    refine awl_val hτ rfl rfl rfl ?_
    refine awl_val hτ rfl rfl rfl ?_
    refine awl_nil ?_
    refine aw_weak (weak_ofP [] (l := [(2, .d (.str (bstr ([] : Str)))), (3, .d (.bool false))]) (objs := []) rfl (by simp) rfl (by repeat' first | exact trivial | refine ⟨?_, ?_⟩) ⟨rfl, trivial, rfl, trivial, trivial⟩) ?_
    refine aw_ret ?_
    have hr := Option.some.inj h
    subst hr
    exact ret_objs (.inr rfl) [] (objs' := []) (new := []) rfl (by simp) (by simp) rfl (by repeat' first | exact trivial | refine ⟨?_, ?_⟩) rfl rfl (by repeat' first | exact trivial | refine ⟨?_, ?_⟩) (fun _ => ⟨by simp [V.flat, V.flatA, V.flatC, D.flat], flat_nil⟩) ⟨rfl, rfl, rfl⟩
  · have hc15 := not_f hc15
    have h := if_bt h hc15
    refine aw_skip ?_
    refine aw_seq ?_
    refine aw_region ?_
    refine awl_valH hτ rfl rfl rfl ?_
    refine awl_val hτ rfl rfl rfl ?_
    refine awl_nil ?_
    refine aw_hk1 (ι := List Str) (fun v26 => St.of [(4, .row 0 v26.length 0 v26.length)] [.row 1 (v26.map eStr)] f32.ntmps 0) (fun v26 => m_impl_NumbersText_j1 n v26 = some r) ?_ (fun hk28 => ?_)
    · rintro v26 h
      replace h : m_impl_NumbersText_j1 n v26 = some r := h
      unfold m_impl_NumbersText_j1 at h
      refine aw_seq ?_
      refine aw_region ?_
      refine awl_val hτ rfl rfl rfl ?_
      refine awl_weak (weak_ofP [0] (l := [(23, .row 0 v26.length 0 v26.length)]) (objs := [.row 1 (v26.map eStr)]) rfl (by simp) rfl (by repeat' first | exact trivial | refine ⟨?_, ?_⟩) ⟨rfl, trivial, trivial⟩) ?_
      refine bnd_elim h fun x27 hx27 h => ?_
      refine awl_callP hτ true [] rfl rfl rfl (enterOk func53 rfl rfl) (mapO_cons (exV_view (f := eStr) v26 rfl rfl rfl) mapO_nil) rfl (by simp) ⟨(exVP_view (f := eStr) v26 rfl rfl rfl), trivial⟩ (by repeat' first | exact trivial | refine ⟨?_, ?_⟩) (impl_joined_ok_fr n v26 hx27) ?_
      rintro r0 o0 n0 ⟨rfl, rfl, rfl⟩ -
      refine awl_val hτ rfl rfl rfl ?_
      refine awl_val hτ rfl rfl rfl ?_
      refine awl_nil ?_
      refine aw_weak (weak_ofP [] (l := [(2, .d (.str (bstr x27))), (3, .d (.bool true))]) (objs := []) rfl (by simp) rfl (by repeat' first | exact trivial | refine ⟨?_, ?_⟩) ⟨rfl, trivial, rfl, trivial, trivial⟩) ?_
      refine aw_ret ?_
      have hr := Option.some.inj h
      subst hr
      exact ret_objs (.inr rfl) [] (objs' := []) (new := []) rfl (by simp) (by simp) rfl (by repeat' first | exact trivial | refine ⟨?_, ?_⟩) rfl rfl (by repeat' first | exact trivial | refine ⟨?_, ?_⟩) (fun _ => ⟨by simp [V.flat, V.flatA, V.flatC, D.flat], flat_nil⟩) ⟨rfl, rfl, rfl⟩
    · refine aw_seq ?_
      refine aw_seq ?_
      refine aw_weak (weak_ofP [0] (l := [(0, .d (.sl false (list_.map eNatf32))), (4, .row 0 (([] : List Str).length) 0 (([] : List Str).length))]) (objs := [.row 1 (([] : List Str).map eStr)]) rfl (by simp) rfl (by repeat' first | exact trivial | refine ⟨?_, ?_⟩) ⟨rfl, trivial, rfl, trivial, trivial⟩) ?_
      refine aw_region ?_
      refine awl_val hτ rfl rfl rfl ?_
      refine awl_val hτ (v := .d (.int .i64 (list_.length : Int))) rfl rfl (Eq.trans rfl (or_len (f := eNatf32) list_)) ?_
      refine awl_val hτ rfl rfl rfl ?_
      refine awl_nil ?_
      refine aw_block ?_
      refine aw_loop (ι := Nat × List Str × Int) (fun (m39, v32, v33) => St.of [(4, .row 0 v32.length 0 v32.length), (11, .d (.sl false (list_.map eNatf32))), (12, .d (.int .i64 (list_.length : Int))), (13, .d (.int .i64 v33))] [.row 1 (v32.map eStr)] f32.ntmps 0) (fun (m39, v32, v33) => m_impl_NumbersText_l2 n list_ m39 v32 v33 = some r) (fun x => x.1) (n, ([] : List Str), (0 : Int)) h (weak_ofP [0] (l := [(4, .row 0 (([] : List Str).length) 0 (([] : List Str).length)), (11, .d (.sl false (list_.map eNatf32))), (12, .d (.int .i64 (list_.length : Int))), (13, .d (.int .i64 (0 : Int)))]) (objs := [.row 1 (([] : List Str).map eStr)]) rfl (by simp) rfl (by repeat' first | exact trivial | refine ⟨?_, ?_⟩) ⟨rfl, trivial, rfl, trivial, rfl, trivial, rfl, trivial, trivial⟩) ?_
      rintro ⟨m39, v32, v33⟩ h
      replace h : m_impl_NumbersText_l2 n list_ m39 v32 v33 = some r := h
      rcases m39 with _ | m39
      · rw [m_impl_NumbersText_l2] at h; cases h
      rw [m_impl_NumbersText_l2] at h
      refine aw_seq ?_
      refine aw_region ?_
      refine awl_val hτ rfl rfl rfl ?_
      refine awl_nil ?_
      refine aw_seq ?_
      refine aw_cond rfl (fun hc41 => ?_) (fun hc41 => ?_)
      · have h := if_t h hc41
        refine aw_skip ?_
        refine aw_seq ?_
        refine aw_block ?_
        refine aw_seq ?_
        refine aw_region ?_
        refine bnd_elim h fun x42 hx42 h => ?_
        refine awl_elem hτ rfl rfl rfl (getI_some hx42).1 (map_getI hx42) rfl ?_
        refine awl_val hτ rfl rfl rfl ?_
        refine awl_val hτ rfl rfl rfl ?_
        refine awl_nil ?_
        refine aw_region ?_
        refine awl_val hτ rfl rfl rfl ?_
        refine awl_val hτ rfl rfl rfl ?_
        refine bnd_elim h fun x43 hx43 h => ?_
        refine awl_callP hτ false [] rfl rfl rfl (enterOk func52 rfl rfl) rfl rfl (by simp) ⟨trivial, trivial⟩ (by repeat' first | exact trivial | refine ⟨?_, ?_⟩) (impl_hexText_ok n x42 hx43) ?_
        rintro r0 o0 n0 ⟨rfl, rfl, rfl⟩ -
        refine awl_valH hτ rfl rfl rfl ?_
        refine grd_elim h fun hg44 h => ?_
        refine awl_needH hτ rfl rfl (Eq.trans rfl (or_append (f := eStr) v32 [x43] rfl)) ⟨⟨rfl, Nat.le_of_ble_eq_true rfl⟩, len_map _, rfl, rfl, hg44, by decide, (all1 rfl)⟩ ?_
        refine awl_val hτ rfl rfl rfl ?_
        refine awl_nil ?_
        refine aw_weak (weak_ofP [0] (l := [(4, .row 0 ((v32 ++ [x43]).length) 0 ((v32 ++ [x43]).length)), (11, .d (.sl false (list_.map eNatf32))), (12, .d (.int .i64 (list_.length : Int))), (13, .d (.int .i64 v33))]) (objs := [.row 1 ((v32 ++ [x43]).map eStr)]) rfl (by simp) rfl (by repeat' first | exact trivial | refine ⟨?_, ?_⟩) ⟨rfl, trivial, rfl, trivial, rfl, trivial, rfl, trivial, trivial⟩) ?_
        refine aw_region ?_
        refine awl_val hτ rfl rfl rfl ?_
        refine awl_val hτ rfl rfl rfl ?_
        refine awl_nil ?_
        exact ⟨(m39, (v32 ++ [x43]), (w64 (v33 + (1 : Int)))), h, Nat.lt_succ_self m39, (weak_ofP [0] (l := [(4, .row 0 ((v32 ++ [x43]).length) 0 ((v32 ++ [x43]).length)), (11, .d (.sl false (list_.map eNatf32))), (12, .d (.int .i64 (list_.length : Int))), (13, .d (.int .i64 (w64 (v33 + (1 : Int)))))]) (objs := [.row 1 ((v32 ++ [x43]).map eStr)]) rfl (by simp) rfl (by repeat' first | exact trivial | refine ⟨?_, ?_⟩) ⟨rfl, trivial, rfl, trivial, rfl, trivial, rfl, trivial, trivial⟩)⟩
      · have h := if_f h hc41
        refine aw_exit ?_
        refine aw_weak (weak_ofP [0] (l := [(4, .row 0 v32.length 0 v32.length)]) (objs := [.row 1 (v32.map eStr)]) rfl (by simp) rfl (by repeat' first | exact trivial | refine ⟨?_, ?_⟩) ⟨rfl, trivial, trivial⟩) ?_
        exact hk28 v32 h
theorem impl_NumbersText_ok (n : Nat) (list_ : List Nat) {r : Str × Bool} (h : m_impl_NumbersText n list_ = some r) : ACall prog false 32 [.d (.sl false (list_.map eNatf32))] [] (fun v o new => v = .tup [.d (.str (bstr r.1)), .d (.bool r.2)] ∧ o = [] ∧ new = []) := impl_NumbersText_ok_fr0 false n list_ h
theorem impl_NumbersText_ok_fr (n : Nat) (list_ : List Nat) {r : Str × Bool} (h : m_impl_NumbersText n list_ = some r) : ACall prog true 32 [.d (.sl false (list_.map eNatf32))] [] (fun v o new => v = .tup [.d (.str (bstr r.1)), .d (.bool r.2)] ∧ o = [] ∧ new = []) := impl_NumbersText_ok_fr0 true n list_ h

def m_impl_ReadNumbers_j2 (n : Nat) (k32 : List Nat → Int → Option (List Nat × Bool)) (v23 : Int) (v39 : List Nat) : Option (List Nat × Bool) :=
  k32 v39 (w64 (v23 + (1 : Int)))
def m_impl_ReadNumbers_j3 (n : Nat) (k32 : List Nat → Int → Option (List Nat × Bool)) (v22 : List Nat) (v23 : Int) (x42 : Nat × Bool) : Option (List Nat × Bool) :=
  grd (room (v22.length + 1) 4) <|
  m_impl_ReadNumbers_j2 n k32 v23 (v22 ++ [x42.1])
def m_impl_ReadNumbers_j4 (n : Nat) (k32 : List Nat → Int → Option (List Nat × Bool)) (v22 : List Nat) (v23 : Int) (x42 : Nat × Bool) (v49 : Bool) : Option (List Nat × Bool) :=
  if v49 = true then
    some (([] : List Nat), false)
  else
    m_impl_ReadNumbers_j3 n k32 v22 v23 x42
def m_impl_ReadNumbers_l1 (n : Nat) (x16 : List Str) : Nat → List Nat → Int → Option (List Nat × Bool)
  | 0, _, _ => none
  | m31 + 1, v22, v23 =>
    if v23 < (x16.length : Int) then
      (getI x16 v23).bind fun x41 =>
      (m_impl_readNumber n x41).bind fun x42 =>
      if x42.2 = true then
        m_impl_ReadNumbers_j4 n (m_impl_ReadNumbers_l1 n x16 m31) v22 v23 x42 (decide ((v22.length : Int) = (256 : Int)))
      else
        m_impl_ReadNumbers_j4 n (m_impl_ReadNumbers_l1 n x16 m31) v22 v23 x42 true
    else
      some (v22, true)
def m_impl_ReadNumbers (n : Nat) (s_ : Str) : Option (List Nat × Bool) :=
  (m_impl_parted n s_).bind fun x16 =>
  m_impl_ReadNumbers_l1 n x16 n ([] : List Nat) (0 : Int)
theorem impl_ReadNumbers_ok_fr0 (fr : Bool) (n : Nat) (s_ : Str) {r : List Nat × Bool} (h : m_impl_ReadNumbers n s_ = some r) : ACall prog fr 33 [.d (.str (bstr s_))] [] (fun v o new => v = .tup [.row 0 r.1.length 0 r.1.length, .d (.bool r.2)] ∧ o = [] ∧ new = [.row 1 (r.1.map eNatf32)]) := by
  refine acall_of_aw hτ func33 rfl (by simp) (by simp) ?_
  unfold m_impl_ReadNumbers at h
  refine aw_seq ?_
  refine aw_region ?_
  refine awl_val hτ rfl rfl rfl ?_
  refine awl_val hτ rfl rfl rfl ?_
  refine awl_nil ?_
  refine aw_seq ?_
  refine aw_region ?_
  refine awl_valH hτ rfl rfl rfl ?_
  refine awl_val hτ rfl rfl rfl ?_
  refine awl_nil ?_
  refine aw_seq ?_
  refine aw_seq ?_
  refine aw_region ?_
  refine awl_val hτ rfl rfl rfl ?_
  refine bnd_elim h fun x16 hx16 h => ?_
  refine awl_callP hτ false [] rfl rfl rfl (enterOk func54 rfl rfl) rfl rfl (by simp) ⟨trivial, trivial⟩ (by repeat' first | exact trivial | refine ⟨?_, ?_⟩) (impl_parted_ok n s_ hx16) ?_
  rintro r0 o0 n0 ⟨rfl, rfl, rfl⟩ -
  refine awl_val hτ (v := .d (.int .i64 (x16.length : Int))) rfl rfl (Eq.trans rfl (or_len (f := eStr) x16)) ?_
  refine awl_val hτ rfl rfl rfl ?_
  refine awl_nil ?_
  refine aw_block ?_
  refine aw_loop (ι := Nat × List Nat × Int) (fun (m31, v22, v23) => St.of [(4, .row 0 v22.length 0 v22.length), (11, .d (.sl false (x16.map eStr))), (12, .d (.int .i64 (x16.length : Int))), (13, .d (.int .i64 v23))] [.row 1 (v22.map eNatf32)] f33.ntmps 0) (fun (m31, v22, v23) => m_impl_ReadNumbers_l1 n x16 m31 v22 v23 = some r) (fun x => x.1) (n, ([] : List Nat), (0 : Int)) h (weak_ofP [0] (l := [(4, .row 0 (([] : List Nat).length) 0 (([] : List Nat).length)), (11, .d (.sl false (x16.map eStr))), (12, .d (.int .i64 (x16.length : Int))), (13, .d (.int .i64 (0 : Int)))]) (objs := [.row 1 (([] : List Nat).map eNatf32)]) rfl (by simp) rfl (by repeat' first | exact trivial | refine ⟨?_, ?_⟩) ⟨rfl, trivial, rfl, trivial, rfl, trivial, rfl, trivial, trivial⟩) ?_
  rintro ⟨m31, v22, v23⟩ h
  replace h : m_impl_ReadNumbers_l1 n x16 m31 v22 v23 = some r := h
  rcases m31 with _ | m31
  · rw [m_impl_ReadNumbers_l1] at h; cases h
  rw [m_impl_ReadNumbers_l1] at h
  refine aw_seq ?_
  refine aw_region ?_
  refine awl_val hτ rfl rfl rfl ?_
  refine awl_nil ?_
  refine aw_seq ?_
  refine aw_cond rfl (fun hc33 => ?_) (fun hc33 => ?_)
  · have h := if_t h hc33
    refine aw_skip ?_
    refine aw_hk1 (ι := List Nat) (fun v39 => St.of [(4, .row 0 v39.length 0 v39.length), (11, .d (.sl false (x16.map eStr))), (12, .d (.int .i64 (x16.length : Int))), (13, .d (.int .i64 v23))] [.row 1 (v39.map eNatf32)] f33.ntmps 0) (fun v39 => m_impl_ReadNumbers_j2 n (m_impl_ReadNumbers_l1 n x16 m31) v23 v39 = some r) ?_ (fun hk40 => ?_)
    · rintro v39 h
      replace h : m_impl_ReadNumbers_j2 n (m_impl_ReadNumbers_l1 n x16 m31) v23 v39 = some r := h
      unfold m_impl_ReadNumbers_j2 at h
      refine aw_region ?_
      refine awl_val hτ rfl rfl rfl ?_
      refine awl_val hτ rfl rfl rfl ?_
      refine awl_nil ?_
      exact ⟨(m31, v39, (w64 (v23 + (1 : Int)))), h, Nat.lt_succ_self m31, (weak_ofP [0] (l := [(4, .row 0 v39.length 0 v39.length), (11, .d (.sl false (x16.map eStr))), (12, .d (.int .i64 (x16.length : Int))), (13, .d (.int .i64 (w64 (v23 + (1 : Int)))))]) (objs := [.row 1 (v39.map eNatf32)]) rfl (by simp) rfl (by repeat' first | exact trivial | refine ⟨?_, ?_⟩) ⟨rfl, trivial, rfl, trivial, rfl, trivial, rfl, trivial, trivial⟩)⟩
    · refine aw_seq ?_
      refine aw_block ?_
      refine aw_seq ?_
      refine aw_region ?_
      refine bnd_elim h fun x41 hx41 h => ?_
      refine awl_elem hτ rfl rfl rfl (getI_some hx41).1 (map_getI hx41) rfl ?_
      refine awl_val hτ rfl rfl rfl ?_
      refine awl_val hτ rfl rfl rfl ?_
      refine awl_nil ?_
      refine aw_seq ?_
      refine aw_region ?_
      refine awl_val hτ rfl rfl rfl ?_
      refine bnd_elim h fun x42 hx42 h => ?_
      refine awl_callP hτ false [] rfl rfl rfl (enterOk func55 rfl rfl) rfl rfl (by simp) ⟨trivial, trivial⟩ (by repeat' first | exact trivial | refine ⟨?_, ?_⟩) (impl_readNumber_ok n x41 hx42) ?_
      rintro r0 o0 n0 ⟨rfl, rfl, rfl⟩ -
      refine awl_val hτ rfl rfl rfl ?_
      refine awl_val hτ rfl rfl rfl ?_
      refine awl_val hτ rfl rfl rfl ?_
      refine awl_val hτ rfl rfl rfl ?_
      refine awl_val hτ rfl rfl rfl ?_
      refine awl_nil ?_
      refine aw_hk1 (ι := Unit) (fun _ => St.of [(4, .row 0 v22.length 0 v22.length), (7, .d (.fl .f32 x42.1)), (11, .d (.sl false (x16.map eStr))), (12, .d (.int .i64 (x16.length : Int))), (13, .d (.int .i64 v23))] [.row 1 (v22.map eNatf32)] f33.ntmps 0) (fun _ => m_impl_ReadNumbers_j3 n (m_impl_ReadNumbers_l1 n x16 m31) v22 v23 x42 = some r) ?_ (fun hk46 => ?_)
      · rintro ⟨⟩ h
        replace h : m_impl_ReadNumbers_j3 n (m_impl_ReadNumbers_l1 n x16 m31) v22 v23 x42 = some r := h
        unfold m_impl_ReadNumbers_j3 at h
        refine aw_region ?_
        refine awl_val hτ rfl rfl rfl ?_
        refine awl_val hτ rfl rfl rfl ?_
        refine awl_valH hτ rfl rfl rfl ?_
        refine grd_elim h fun hg45 h => ?_
        refine awl_needH hτ rfl rfl (Eq.trans rfl (or_append (f := eNatf32) v22 [x42.1] rfl)) ⟨⟨rfl, Nat.le_of_ble_eq_true rfl⟩, len_map _, rfl, rfl, hg45, by decide, (all1 rfl)⟩ ?_
        refine awl_val hτ rfl rfl rfl ?_
        refine awl_nil ?_
        refine aw_weak (weak_ofP [0] (l := [(4, .row 0 ((v22 ++ [x42.1]).length) 0 ((v22 ++ [x42.1]).length)), (11, .d (.sl false (x16.map eStr))), (12, .d (.int .i64 (x16.length : Int))), (13, .d (.int .i64 v23))]) (objs := [.row 1 ((v22 ++ [x42.1]).map eNatf32)]) rfl (by simp) rfl (by repeat' first | exact trivial | refine ⟨?_, ?_⟩) ⟨rfl, trivial, rfl, trivial, rfl, trivial, rfl, trivial, trivial⟩) ?_
        exact hk40 (v22 ++ [x42.1]) h
      · refine aw_seq ?_
        refine aw_hk1 (ι := Bool) (fun v49 => St.of [(4, .row 0 v22.length 0 v22.length), (7, .d (.fl .f32 x42.1)), (11, .d (.sl false (x16.map eStr))), (12, .d (.int .i64 (x16.length : Int))), (13, .d (.int .i64 v23)), (28, .d (.bool v49))] [.row 1 (v22.map eNatf32)] f33.ntmps 0) (fun v49 => m_impl_ReadNumbers_j4 n (m_impl_ReadNumbers_l1 n x16 m31) v22 v23 x42 v49 = some r) ?_ (fun hk51 => ?_)
        · rintro v49 h
          replace h : m_impl_ReadNumbers_j4 n (m_impl_ReadNumbers_l1 n x16 m31) v22 v23 x42 v49 = some r := h
          unfold m_impl_ReadNumbers_j4 at h
          refine aw_cond rfl (fun hc50 => ?_) (fun hc50 => ?_)
          · have h := if_bt h hc50
            refine aw_seq ?_
            refine aw_region ?_
            refine awl_val hτ rfl rfl rfl ?_
            refine awl_val hτ rfl rfl rfl ?_
            refine awl_nil ?_
            refine aw_weak (weak_ofP [] (l := [(2, .d (.nils)), (3, .d (.bool false))]) (objs := []) rfl (by simp) rfl (by repeat' first | exact trivial | refine ⟨?_, ?_⟩) ⟨rfl, trivial, rfl, trivial, trivial⟩) ?_
            refine aw_weak (weak_relax [1] (l' := [(2, .row 0 (([] : List Nat).length) 0 (([] : List Nat).length)), (3, .d (.bool false))]) (objs' := []) (.cons (.c (.ghost ⟨Nat.le_of_ble_eq_true rfl, Nat.le_of_ble_eq_true rfl⟩)) (.cons (.c (.refl _)) .nil)) .nil) ?_
            refine aw_ret ?_
            have hr := Option.some.inj h
            subst hr
            exact ret_objs (.inr rfl) [0] (objs' := []) (new := [.row 1 (([] : List Nat).map eNatf32)]) rfl (by simp) (by simp) rfl (by repeat' first | exact trivial | refine ⟨?_, ?_⟩) rfl rfl (by repeat' first | exact trivial | refine ⟨?_, ?_⟩) (fun _ => ⟨by simp [V.flat, V.flatA, V.flatC, D.flat], (flat_cons (flat_row eNatf32_flat _) flat_nil)⟩) ⟨rfl, rfl, rfl⟩
          · have h := if_bf h hc50
            refine aw_skip ?_
            refine aw_weak (weak_ofP [0] (l := [(4, .row 0 v22.length 0 v22.length), (7, .d (.fl .f32 x42.1)), (11, .d (.sl false (x16.map eStr))), (12, .d (.int .i64 (x16.length : Int))), (13, .d (.int .i64 v23))]) (objs := [.row 1 (v22.map eNatf32)]) rfl (by simp) rfl (by repeat' first | exact trivial | refine ⟨?_, ?_⟩) ⟨rfl, trivial, rfl, trivial, rfl, trivial, rfl, trivial, rfl, trivial, trivial⟩) ?_
            exact hk46 () h
        · refine aw_seq ?_
          refine aw_weak (weak_ofP [0] (l := [(4, .row 0 v22.length 0 v22.length), (7, .d (.fl .f32 x42.1)), (8, .d (.bool x42.2)), (11, .d (.sl false (x16.map eStr))), (12, .d (.int .i64 (x16.length : Int))), (13, .d (.int .i64 v23))]) (objs := [.row 1 (v22.map eNatf32)]) rfl (by simp) rfl (by repeat' first | exact trivial | refine ⟨?_, ?_⟩) ⟨rfl, trivial, rfl, trivial, rfl, trivial, rfl, trivial, rfl, trivial, rfl, trivial, trivial⟩) ?_
          refine aw_region ?_
          refine awl_val hτ rfl rfl rfl ?_
          refine awl_val hτ rfl rfl rfl ?_
          refine awl_val hτ rfl rfl rfl ?_
          refine awl_split 24 rfl (fun hb52 => ?_) (fun hb52 => ?_)
          · have hb52 := not_t hb52
            have h := if_bf h hb52
            refine awl_skip rfl rfl ?_
            refine awl_skip rfl rfl ?_
            refine awl_skip rfl rfl ?_
            refine awl_val hτ rfl rfl rfl ?_
            refine awl_nil ?_
            refine aw_weak (weak_ofP [0] (l := [(4, .row 0 v22.length 0 v22.length), (7, .d (.fl .f32 x42.1)), (11, .d (.sl false (x16.map eStr))), (12, .d (.int .i64 (x16.length : Int))), (13, .d (.int .i64 v23)), (28, .d (.bool true))]) (objs := [.row 1 (v22.map eNatf32)]) rfl (by simp) rfl (by repeat' first | exact trivial | refine ⟨?_, ?_⟩) ⟨rfl, trivial, rfl, trivial, rfl, trivial, rfl, trivial, rfl, trivial, rfl, trivial, trivial⟩) ?_
            exact hk51 true h
          · have hb52 := not_f hb52
            have h := if_bt h hb52
            refine awl_val hτ rfl rfl rfl ?_
            refine awl_need hτ rfl rfl rfl (len_map _) ?_
            refine awl_val hτ (v := .d (.bool (decide ((v22.length : Int) = (256 : Int))))) rfl rfl (or_ieq _ _) ?_
            refine awl_val hτ rfl rfl rfl ?_
            refine awl_nil ?_
            refine aw_weak (weak_ofP [0] (l := [(4, .row 0 v22.length 0 v22.length), (7, .d (.fl .f32 x42.1)), (11, .d (.sl false (x16.map eStr))), (12, .d (.int .i64 (x16.length : Int))), (13, .d (.int .i64 v23)), (28, .d (.bool (decide ((v22.length : Int) = (256 : Int)))))]) (objs := [.row 1 (v22.map eNatf32)]) rfl (by simp) rfl (by repeat' first | exact trivial | refine ⟨?_, ?_⟩) ⟨rfl, trivial, rfl, trivial, rfl, trivial, rfl, trivial, rfl, trivial, rfl, trivial, trivial⟩) ?_
            exact hk51 (decide ((v22.length : Int) = (256 : Int))) h
  · have h := if_f h hc33
    refine aw_exit ?_
    refine aw_seq ?_
    refine aw_region ?_
    refine awl_val hτ rfl rfl rfl ?_
    refine awl_val hτ rfl rfl rfl ?_
    refine awl_val hτ rfl rfl rfl ?_
    refine awl_nil ?_
    refine aw_weak (weak_ofP [0] (l := [(2, .row 0 v22.length 0 v22.length), (3, .d (.bool true))]) (objs := [.row 1 (v22.map eNatf32)]) rfl (by simp) rfl (by repeat' first | exact trivial | refine ⟨?_, ?_⟩) ⟨rfl, trivial, rfl, trivial, trivial⟩) ?_
    refine aw_ret ?_
    have hr := Option.some.inj h
    subst hr
    exact ret_objs (.inr rfl) [0] (objs' := []) (new := [.row 1 (v22.map eNatf32)]) rfl (by simp) (by simp) rfl (by repeat' first | exact trivial | refine ⟨?_, ?_⟩) rfl rfl (by repeat' first | exact trivial | refine ⟨?_, ?_⟩) (fun _ => ⟨by simp [V.flat, V.flatA, V.flatC, D.flat], (flat_cons (flat_row eNatf32_flat _) flat_nil)⟩) ⟨rfl, rfl, rfl⟩
theorem impl_ReadNumbers_ok (n : Nat) (s_ : Str) {r : List Nat × Bool} (h : m_impl_ReadNumbers n s_ = some r) : ACall prog false 33 [.d (.str (bstr s_))] [] (fun v o new => v = .tup [.row 0 r.1.length 0 r.1.length, .d (.bool r.2)] ∧ o = [] ∧ new = [.row 1 (r.1.map eNatf32)]) := impl_ReadNumbers_ok_fr0 false n s_ h
theorem impl_ReadNumbers_ok_fr (n : Nat) (s_ : Str) {r : List Nat × Bool} (h : m_impl_ReadNumbers n s_ = some r) : ACall prog true 33 [.d (.str (bstr s_))] [] (fun v o new => v = .tup [.row 0 r.1.length 0 r.1.length, .d (.bool r.2)] ∧ o = [] ∧ new = [.row 1 (r.1.map eNatf32)]) := impl_ReadNumbers_ok_fr0 true n s_ h

def m_math_NaN (n : Nat) : Option Nat :=
  grd ((9221120237041090561 : Int).toNat < 18446744073709551616) <|
  some (canon .f64 (9221120237041090561 : Int).toNat)
theorem math_NaN_ok_fr0 (fr : Bool) (n : Nat) {r : Nat} (h : m_math_NaN n = some r) : ACall prog fr 73 [] [] (fun v o new => v = .d (.fl .f64 r) ∧ o = [] ∧ new = []) := by
  refine acall_of_aw hτ func73 rfl (by simp) (by simp) ?_
  unfold m_math_NaN at h
  refine aw_seq ?_
  refine aw_region ?_
  refine awl_val hτ rfl rfl rfl ?_
  refine awl_nil ?_
  refine aw_seq ?_
  refine aw_region ?_
  refine grd_elim h fun hg2 h => ?_
  refine awl_ext hτ rfl rfl rfl (ext99 hg2) ?_
  refine awl_val hτ rfl rfl rfl ?_
  refine awl_nil ?_
  refine aw_weak (weak_ofP [] (l := [(0, .d (.fl .f64 (canon .f64 (9221120237041090561 : Int).toNat)))]) (objs := []) rfl (by simp) rfl (by repeat' first | exact trivial | refine ⟨?_, ?_⟩) ⟨rfl, trivial, trivial⟩) ?_
  refine aw_ret ?_
  have hr := Option.some.inj h
  subst hr
  exact ret_objs (.inr rfl) [] (objs' := []) (new := []) rfl (by simp) (by simp) rfl (by repeat' first | exact trivial | refine ⟨?_, ?_⟩) rfl rfl (by repeat' first | exact trivial | refine ⟨?_, ?_⟩) (fun _ => ⟨by simp [V.flat, V.flatA, V.flatC, D.flat], flat_nil⟩) ⟨rfl, rfl, rfl⟩
theorem math_NaN_ok (n : Nat) {r : Nat} (h : m_math_NaN n = some r) : ACall prog false 73 [] [] (fun v o new => v = .d (.fl .f64 r) ∧ o = [] ∧ new = []) := math_NaN_ok_fr0 false n h
theorem math_NaN_ok_fr (n : Nat) {r : Nat} (h : m_math_NaN n = some r) : ACall prog true 73 [] [] (fun v o new => v = .d (.fl .f64 r) ∧ o = [] ∧ new = []) := math_NaN_ok_fr0 true n h

def m_math_Abs (n : Nat) (x_ : Nat) : Option Nat :=
  grd (isnan .f64 x_ = false) <|
  grd ((ibits .andNot .u64 (x_ : Int) (9223372036854775808 : Int)).toNat < 18446744073709551616) <|
  some (canon .f64 (ibits .andNot .u64 (x_ : Int) (9223372036854775808 : Int)).toNat)
theorem math_Abs_ok_fr0 (fr : Bool) (n : Nat) (x_ : Nat) {r : Nat} (h : m_math_Abs n x_ = some r) : ACall prog fr 74 [.d (.fl .f64 x_)] [] (fun v o new => v = .d (.fl .f64 r) ∧ o = [] ∧ new = []) := by
  refine acall_of_aw hτ func74 rfl (by simp) (by simp) ?_
  unfold m_math_Abs at h
  refine aw_seq ?_
  refine aw_region ?_
  refine awl_val hτ rfl rfl rfl ?_
  refine awl_nil ?_
  refine aw_seq ?_
  refine aw_region ?_
  refine awl_val hτ rfl rfl rfl ?_
  refine grd_elim h fun hg3 h => ?_
  refine awl_ext hτ rfl rfl rfl (ext100 hg3) ?_
  refine awl_val hτ rfl rfl rfl ?_
  refine grd_elim h fun hg4 h => ?_
  refine awl_ext hτ rfl rfl rfl (ext99 hg4) ?_
  refine awl_val hτ rfl rfl rfl ?_
  refine awl_nil ?_
  refine aw_weak (weak_ofP [] (l := [(2, .d (.fl .f64 (canon .f64 (ibits .andNot .u64 (x_ : Int) (9223372036854775808 : Int)).toNat)))]) (objs := []) rfl (by simp) rfl (by repeat' first | exact trivial | refine ⟨?_, ?_⟩) ⟨rfl, trivial, trivial⟩) ?_
  refine aw_ret ?_
  have hr := Option.some.inj h
  subst hr
  exact ret_objs (.inr rfl) [] (objs' := []) (new := []) rfl (by simp) (by simp) rfl (by repeat' first | exact trivial | refine ⟨?_, ?_⟩) rfl rfl (by repeat' first | exact trivial | refine ⟨?_, ?_⟩) (fun _ => ⟨by simp [V.flat, V.flatA, V.flatC, D.flat], flat_nil⟩) ⟨rfl, rfl, rfl⟩
theorem math_Abs_ok (n : Nat) (x_ : Nat) {r : Nat} (h : m_math_Abs n x_ = some r) : ACall prog false 74 [.d (.fl .f64 x_)] [] (fun v o new => v = .d (.fl .f64 r) ∧ o = [] ∧ new = []) := math_Abs_ok_fr0 false n x_ h
theorem math_Abs_ok_fr (n : Nat) (x_ : Nat) {r : Nat} (h : m_math_Abs n x_ = some r) : ACall prog true 74 [.d (.fl .f64 x_)] [] (fun v o new => v = .d (.fl .f64 r) ∧ o = [] ∧ new = []) := math_Abs_ok_fr0 true n x_ h

end Go.Proofs.YtdgkahieegcmeaaDoor.AWN
