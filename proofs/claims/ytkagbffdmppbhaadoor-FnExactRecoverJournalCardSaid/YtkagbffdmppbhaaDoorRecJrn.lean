/- Models and contracts, printed by program. -/
import Derived.Test.YtkagbffdmppbhaaDoorTypes
set_option linter.unusedVariables false
set_option linter.unusedSimpArgs false
set_option linter.unusedSectionVars false
set_option maxHeartbeats 2000000
namespace Go.Proofs.YtkagbffdmppbhaaDoor.AWN
open Go Go.Proofs.Tryd

def eStr (x : Str) : List D := [.str (bstr x)]
@[simp] theorem eStr_len (x : Str) : (eStr x).length = 1 := rfl
theorem eStr_flat (x : Str) : ∀ c ∈ eStr x, c.flat := by simp [eStr, D.flat]
def eIntu8 (x : Int) : List D := [.int .u8 x]
@[simp] theorem eIntu8_len (x : Int) : (eIntu8 x).length = 1 := rfl
theorem eIntu8_flat (x : Int) : ∀ c ∈ eIntu8 x, c.flat := by simp [eIntu8, D.flat]

theorem ext90 {s : Str} {c : Int} : ExtDoes prog 90 [.d (.str (bstr s)), .d (.int .u8 c)] (.d (.int .i64 (idxB s c))) := extDoes (e := Extern.BytealgIndexByte.indexByte) func90 rfl rfl (by kernel_rfl) (by kernel_rfl) fun W hb H ok vals h => idx_run h
def m_spec_l01Cut_j2 (n : Nat) (k42 : List Str → Int → Int → Option (List Str)) (v30 : Int) (v51 : List Str) (v52 : Int) : Option (List Str) :=
  k42 v51 v52 (w64 (v30 + (1 : Int)))
def m_spec_l01Cut_j3 (n : Nat) (s_ : Str) (k42 : List Str → Int → Int → Option (List Str)) (v28 : List Str) (v29 : Int) (v30 : Int) (v57 : Bool) : Option (List Str) :=
  if v57 = true then
    grd (0 ≤ v29 ∧ v29 ≤ v30 ∧ v30 ≤ (s_.length : Int)) <|
    grd (room (v28.length + 1) 16) <|
    m_spec_l01Cut_j2 n k42 v30 (v28 ++ [(sub s_ v29 v30)]) (w64 (v30 + (1 : Int)))
  else
    m_spec_l01Cut_j2 n k42 v30 v28 v29
def m_spec_l01Cut_l1 (n : Nat) (s_ : Str) (mark_ : Int) : Nat → List Str → Int → Int → Option (List Str)
  | 0, _, _, _ => none
  | m41 + 1, v28, v29, v30 =>
    if v30 ≤ (s_.length : Int) then
      if v30 = (s_.length : Int) then
        m_spec_l01Cut_j3 n s_ (m_spec_l01Cut_l1 n s_ mark_ m41) v28 v29 v30 true
      else
        (getI s_ v30).bind fun x63 =>
        m_spec_l01Cut_j3 n s_ (m_spec_l01Cut_l1 n s_ mark_ m41) v28 v29 v30 (decide ((x63.toNat : Int) = mark_))
    else
      some v28
def m_spec_l01Cut (n : Nat) (s_ : Str) (mark_ : Int) : Option (List Str) :=
  m_spec_l01Cut_l1 n s_ mark_ n ([] : List Str) (0 : Int) (0 : Int)
theorem spec_l01Cut_ok_fr0 (fr : Bool) (n : Nat) (s_ : Str) (mark_ : Int) {r : List Str} (h : m_spec_l01Cut n s_ mark_ = some r) : ACall prog fr 77 [.d (.str (bstr s_)), .d (.int .u8 mark_)] [] (fun v o new => v = .row 0 r.length 0 r.length ∧ o = [] ∧ new = [.row 1 (r.map eStr)]) := by
  refine acall_of_aw hτ func77 rfl (by simp) (by simp) ?_
  unfold m_spec_l01Cut at h
  refine aw_seq ?_
  refine aw_region ?_
  refine awl_val hτ rfl rfl rfl ?_
  refine awl_nil ?_
  refine aw_seq ?_
  refine aw_region ?_
  refine awl_valH hτ rfl rfl rfl ?_
  refine awl_val hτ rfl rfl rfl ?_
  refine awl_nil ?_
  refine aw_seq ?_
  refine aw_region ?_
  refine awl_val hτ rfl rfl rfl ?_
  refine awl_nil ?_
  refine aw_seq ?_
  refine aw_seq ?_
  refine aw_region ?_
  refine awl_val hτ rfl rfl rfl ?_
  refine awl_nil ?_
  refine aw_block ?_
  refine aw_loop (ι := Nat × List Str × Int × Int) (fun (m41, v28, v29, v30) => St.of [(0, .d (.str (bstr s_))), (1, .d (.int .u8 mark_)), (5, .row 0 v28.length 0 v28.length), (6, .d (.int .i64 v29)), (7, .d (.int .i64 v30))] [.row 1 (v28.map eStr)] f77.ntmps 0) (fun (m41, v28, v29, v30) => m_spec_l01Cut_l1 n s_ mark_ m41 v28 v29 v30 = some r) (fun x => x.1) (n, ([] : List Str), (0 : Int), (0 : Int)) h (weak_ofP [0] (l := [(0, .d (.str (bstr s_))), (1, .d (.int .u8 mark_)), (5, .row 0 (([] : List Str).length) 0 (([] : List Str).length)), (6, .d (.int .i64 (0 : Int))), (7, .d (.int .i64 (0 : Int)))]) (objs := [.row 1 (([] : List Str).map eStr)]) rfl (by simp) rfl (by repeat' first | exact trivial | refine ⟨?_, ?_⟩) ⟨rfl, trivial, rfl, trivial, rfl, trivial, rfl, trivial, rfl, trivial, trivial⟩) ?_
  rintro ⟨m41, v28, v29, v30⟩ h
  replace h : m_spec_l01Cut_l1 n s_ mark_ m41 v28 v29 v30 = some r := h
  rcases m41 with _ | m41
  · rw [m_spec_l01Cut_l1] at h; cases h
  rw [m_spec_l01Cut_l1] at h
  refine aw_seq ?_
  refine aw_seq ?_
  refine aw_region ?_
  refine awl_val hτ rfl rfl rfl ?_
  refine awl_val hτ rfl rfl rfl ?_
  refine awl_val hτ rfl rfl rfl ?_
  refine awl_val hτ rfl rfl rfl ?_
  refine awl_nil ?_
  refine aw_cond rfl (fun hc43 => ?_) (fun hc43 => ?_)
  · have h := if_t h hc43
    refine aw_skip ?_
    refine aw_hk1 (ι := List Str × Int) (fun (v51, v52) => St.of [(0, .d (.str (bstr s_))), (1, .d (.int .u8 mark_)), (5, .row 0 v51.length 0 v51.length), (6, .d (.int .i64 v52)), (7, .d (.int .i64 v30))] [.row 1 (v51.map eStr)] f77.ntmps 0) (fun (v51, v52) => m_spec_l01Cut_j2 n (m_spec_l01Cut_l1 n s_ mark_ m41) v30 v51 v52 = some r) ?_ (fun hk53 => ?_)
    · rintro ⟨v51, v52⟩ h
      replace h : m_spec_l01Cut_j2 n (m_spec_l01Cut_l1 n s_ mark_ m41) v30 v51 v52 = some r := h
      unfold m_spec_l01Cut_j2 at h
      refine aw_region ?_
      refine awl_val hτ rfl rfl rfl ?_
      refine awl_val hτ rfl rfl rfl ?_
      refine awl_val hτ rfl rfl rfl ?_
      refine awl_nil ?_
      exact ⟨(m41, v51, v52, (w64 (v30 + (1 : Int)))), h, Nat.lt_succ_self m41, (weak_ofP [0] (l := [(0, .d (.str (bstr s_))), (1, .d (.int .u8 mark_)), (5, .row 0 v51.length 0 v51.length), (6, .d (.int .i64 v52)), (7, .d (.int .i64 (w64 (v30 + (1 : Int)))))]) (objs := [.row 1 (v51.map eStr)]) rfl (by simp) rfl (by repeat' first | exact trivial | refine ⟨?_, ?_⟩) ⟨rfl, trivial, rfl, trivial, rfl, trivial, rfl, trivial, rfl, trivial, trivial⟩)⟩
    · refine aw_seq ?_
      refine aw_block ?_
      refine aw_hk1 (ι := Bool) (fun v57 => St.of [(0, .d (.str (bstr s_))), (1, .d (.int .u8 mark_)), (5, .row 0 v28.length 0 v28.length), (6, .d (.int .i64 v29)), (7, .d (.int .i64 v30)), (25, .d (.bool v57))] [.row 1 (v28.map eStr)] f77.ntmps 0) (fun v57 => m_spec_l01Cut_j3 n s_ (m_spec_l01Cut_l1 n s_ mark_ m41) v28 v29 v30 v57 = some r) ?_ (fun hk61 => ?_)
      · rintro v57 h
        replace h : m_spec_l01Cut_j3 n s_ (m_spec_l01Cut_l1 n s_ mark_ m41) v28 v29 v30 v57 = some r := h
        unfold m_spec_l01Cut_j3 at h
        refine aw_cond rfl (fun hc58 => ?_) (fun hc58 => ?_)
        · have h := if_bt h hc58
          refine aw_seq ?_
          refine aw_region ?_
          refine awl_val hτ rfl rfl rfl ?_
          refine awl_val hτ rfl rfl rfl ?_
          refine awl_val hτ rfl rfl rfl ?_
          refine awl_val hτ rfl rfl rfl ?_
          refine grd_elim h fun hg59 h => ?_
          refine awl_need hτ (v := .d (.str (bstr (sub s_ v29 v30)))) rfl rfl (Eq.trans rfl (or_ssub _ _ _)) hg59 ?_
          refine awl_valH hτ rfl rfl rfl ?_
          refine grd_elim h fun hg60 h => ?_
          refine awl_needH hτ rfl rfl (Eq.trans rfl (or_append (f := eStr) v28 [(sub s_ v29 v30)] rfl)) ⟨⟨rfl, Nat.le_of_ble_eq_true rfl⟩, len_map _, rfl, rfl, hg60, by decide, (all1 rfl)⟩ ?_
          refine awl_val hτ rfl rfl rfl ?_
          refine awl_nil ?_
          refine aw_weak (weak_ofP [0] (l := [(0, .d (.str (bstr s_))), (1, .d (.int .u8 mark_)), (5, .row 0 ((v28 ++ [(sub s_ v29 v30)]).length) 0 ((v28 ++ [(sub s_ v29 v30)]).length)), (7, .d (.int .i64 v30))]) (objs := [.row 1 ((v28 ++ [(sub s_ v29 v30)]).map eStr)]) rfl (by simp) rfl (by repeat' first | exact trivial | refine ⟨?_, ?_⟩) ⟨rfl, trivial, rfl, trivial, rfl, trivial, rfl, trivial, trivial⟩) ?_
          refine aw_region ?_
          refine awl_val hτ rfl rfl rfl ?_
          refine awl_val hτ rfl rfl rfl ?_
          refine awl_val hτ rfl rfl rfl ?_
          refine awl_nil ?_
          refine aw_weak (weak_ofP [0] (l := [(0, .d (.str (bstr s_))), (1, .d (.int .u8 mark_)), (5, .row 0 ((v28 ++ [(sub s_ v29 v30)]).length) 0 ((v28 ++ [(sub s_ v29 v30)]).length)), (6, .d (.int .i64 (w64 (v30 + (1 : Int))))), (7, .d (.int .i64 v30))]) (objs := [.row 1 ((v28 ++ [(sub s_ v29 v30)]).map eStr)]) rfl (by simp) rfl (by repeat' first | exact trivial | refine ⟨?_, ?_⟩) ⟨rfl, trivial, rfl, trivial, rfl, trivial, rfl, trivial, rfl, trivial, trivial⟩) ?_
          exact hk53 ((v28 ++ [(sub s_ v29 v30)]), (w64 (v30 + (1 : Int)))) h
        · have h := if_bf h hc58
          refine aw_skip ?_
          refine aw_weak (weak_ofP [0] (l := [(0, .d (.str (bstr s_))), (1, .d (.int .u8 mark_)), (5, .row 0 v28.length 0 v28.length), (6, .d (.int .i64 v29)), (7, .d (.int .i64 v30))]) (objs := [.row 1 (v28.map eStr)]) rfl (by simp) rfl (by repeat' first | exact trivial | refine ⟨?_, ?_⟩) ⟨rfl, trivial, rfl, trivial, rfl, trivial, rfl, trivial, rfl, trivial, trivial⟩) ?_
          exact hk53 (v28, v29) h
      · refine aw_seq ?_
        refine aw_region ?_
        refine awl_val hτ rfl rfl rfl ?_
        refine awl_val hτ rfl rfl rfl ?_
        refine awl_val hτ rfl rfl rfl ?_
        refine awl_val hτ (v := .d (.bool (decide (v30 = (s_.length : Int))))) rfl rfl (or_ieq _ _) ?_
        refine awl_val hτ rfl rfl rfl ?_
        refine awl_split 19 rfl (fun hb62 => ?_) (fun hb62 => ?_)
        · have h := if_t h hb62
          refine awl_skip rfl rfl ?_
          refine awl_skip rfl rfl ?_
          refine awl_skip rfl rfl ?_
          refine awl_weak (weak_ofP [0] (l := [(0, .d (.str (bstr s_))), (1, .d (.int .u8 mark_)), (5, .row 0 v28.length 0 v28.length), (6, .d (.int .i64 v29)), (7, .d (.int .i64 v30)), (19, .d (.bool true)), (22, .und)]) (objs := [.row 1 (v28.map eStr)]) rfl (by simp) rfl (by repeat' first | exact trivial | refine ⟨?_, ?_⟩) ⟨rfl, trivial, rfl, trivial, rfl, trivial, rfl, trivial, rfl, trivial, rfl, trivial, rfl, trivial, trivial⟩) ?_
          refine awl_skip rfl rfl ?_
          refine awl_skip rfl rfl ?_
          refine awl_val hτ rfl rfl rfl ?_
          refine awl_nil ?_
          refine aw_weak (weak_ofP [0] (l := [(0, .d (.str (bstr s_))), (1, .d (.int .u8 mark_)), (5, .row 0 v28.length 0 v28.length), (6, .d (.int .i64 v29)), (7, .d (.int .i64 v30)), (25, .d (.bool true))]) (objs := [.row 1 (v28.map eStr)]) rfl (by simp) rfl (by repeat' first | exact trivial | refine ⟨?_, ?_⟩) ⟨rfl, trivial, rfl, trivial, rfl, trivial, rfl, trivial, rfl, trivial, rfl, trivial, trivial⟩) ?_
          exact hk61 true h
        · have h := if_f h hb62
          refine awl_val hτ rfl rfl rfl ?_
          refine awl_val hτ rfl rfl rfl ?_
          refine bnd_elim h fun x63 hx63 h => ?_
          refine awl_need hτ (v := .d (.int .u8 (x63.toNat : Int))) rfl rfl (Eq.trans rfl (or_sidx hx63)) (sidx_need hx63) ?_
          refine awl_weak (weak_ofP [0] (l := [(0, .d (.str (bstr s_))), (1, .d (.int .u8 mark_)), (5, .row 0 v28.length 0 v28.length), (6, .d (.int .i64 v29)), (7, .d (.int .i64 v30)), (19, .d (.bool false)), (22, .d (.int .u8 (x63.toNat : Int)))]) (objs := [.row 1 (v28.map eStr)]) rfl (by simp) rfl (by repeat' first | exact trivial | refine ⟨?_, ?_⟩) ⟨rfl, trivial, rfl, trivial, rfl, trivial, rfl, trivial, rfl, trivial, rfl, trivial, rfl, trivial, trivial⟩) ?_
          refine awl_val hτ rfl rfl rfl ?_
          refine awl_val hτ (v := .d (.bool (decide ((x63.toNat : Int) = mark_)))) rfl rfl (or_ieq _ _) ?_
          refine awl_val hτ rfl rfl rfl ?_
          refine awl_nil ?_
          refine aw_weak (weak_ofP [0] (l := [(0, .d (.str (bstr s_))), (1, .d (.int .u8 mark_)), (5, .row 0 v28.length 0 v28.length), (6, .d (.int .i64 v29)), (7, .d (.int .i64 v30)), (25, .d (.bool (decide ((x63.toNat : Int) = mark_))))]) (objs := [.row 1 (v28.map eStr)]) rfl (by simp) rfl (by repeat' first | exact trivial | refine ⟨?_, ?_⟩) ⟨rfl, trivial, rfl, trivial, rfl, trivial, rfl, trivial, rfl, trivial, rfl, trivial, trivial⟩) ?_
          exact hk61 (decide ((x63.toNat : Int) = mark_)) h
  · have h := if_f h hc43
    refine aw_exit ?_
    refine aw_seq ?_
    refine aw_region ?_
    refine awl_val hτ rfl rfl rfl ?_
    refine awl_val hτ rfl rfl rfl ?_
    refine awl_nil ?_
    refine aw_weak (weak_ofP [0] (l := [(4, .row 0 v28.length 0 v28.length)]) (objs := [.row 1 (v28.map eStr)]) rfl (by simp) rfl (by repeat' first | exact trivial | refine ⟨?_, ?_⟩) ⟨rfl, trivial, trivial⟩) ?_
    refine aw_ret ?_
    have hr := Option.some.inj h
    subst hr
    exact ret_objs (.inr rfl) [0] (objs' := []) (new := [.row 1 (v28.map eStr)]) rfl (by simp) (by simp) rfl (by repeat' first | exact trivial | refine ⟨?_, ?_⟩) rfl rfl (by repeat' first | exact trivial | refine ⟨?_, ?_⟩) (fun _ => ⟨by simp [V.flat, V.flatA, V.flatC, D.flat], (flat_cons (flat_row eStr_flat _) flat_nil)⟩) ⟨rfl, rfl, rfl⟩
theorem spec_l01Cut_ok (n : Nat) (s_ : Str) (mark_ : Int) {r : List Str} (h : m_spec_l01Cut n s_ mark_ = some r) : ACall prog false 77 [.d (.str (bstr s_)), .d (.int .u8 mark_)] [] (fun v o new => v = .row 0 r.length 0 r.length ∧ o = [] ∧ new = [.row 1 (r.map eStr)]) := spec_l01Cut_ok_fr0 false n s_ mark_ h
theorem spec_l01Cut_ok_fr (n : Nat) (s_ : Str) (mark_ : Int) {r : List Str} (h : m_spec_l01Cut n s_ mark_ = some r) : ACall prog true 77 [.d (.str (bstr s_)), .d (.int .u8 mark_)] [] (fun v o new => v = .row 0 r.length 0 r.length ∧ o = [] ∧ new = [.row 1 (r.map eStr)]) := spec_l01Cut_ok_fr0 true n s_ mark_ h

def m_spec_l11Lines (n : Nat) (t_ : Str) : Option (List Str × Str) :=
  (m_spec_l01Cut n t_ (10 : Int)).bind fun x4 =>
  grd (0 ≤ (0 : Int) ∧ (0 : Int) ≤ (w64 ((x4.length : Int) - (1 : Int))) ∧ (w64 ((x4.length : Int) - (1 : Int))) ≤ (x4.length : Int) ∧ 0 < x4.length) <|
  (getI x4 (w64 ((x4.length : Int) - (1 : Int)))).bind fun x6 =>
  some (((x4).drop (0 + (0 : Int).toNat)).take ((w64 ((x4.length : Int) - (1 : Int))).toNat - (0 : Int).toNat), x6)
theorem spec_l11Lines_ok (n : Nat) (t_ : Str) {r : List Str × Str} (h : m_spec_l11Lines n t_ = some r) : ACall prog false 55 [.d (.str (bstr t_))] [] (fun v o new => v = .tup [.d (.sl false (r.1.map eStr)), .d (.str (bstr r.2))] ∧ o = [] ∧ new = []) := by
  refine acall_of_aw hτ func55 rfl (by simp) (by simp) ?_
  unfold m_spec_l11Lines at h
  refine aw_seq ?_
  refine aw_region ?_
  refine awl_val hτ rfl rfl rfl ?_
  refine awl_val hτ rfl rfl rfl ?_
  refine awl_nil ?_
  refine aw_seq ?_
  refine aw_region ?_
  refine awl_val hτ rfl rfl rfl ?_
  refine bnd_elim h fun x4 hx4 h => ?_
  refine awl_callP hτ false [] rfl rfl rfl (enterOk func77 rfl rfl) rfl rfl (by simp) ⟨trivial, trivial, trivial⟩ (by repeat' first | exact trivial | refine ⟨?_, ?_⟩) (spec_l01Cut_ok n t_ (10 : Int) hx4) ?_
  rintro r0 o0 n0 ⟨rfl, rfl, rfl⟩ -
  refine awl_val hτ rfl rfl rfl ?_
  refine awl_nil ?_
  refine aw_seq ?_
  refine any_start ?_
  refine any_val hτ [] 0 rfl rfl rfl rfl rfl ?_
  refine any_val hτ [] 1 rfl rfl rfl rfl rfl ?_
  refine any_need hτ [0] 2 rfl rfl rfl rfl rfl (len_map _) ?_
  refine any_val hτ [] 3 rfl rfl rfl rfl rfl ?_
  refine grd_elim h fun hg5 h => ?_
  refine any_need hτ (v := .row 0 x4.length (0 + (0 : Int).toNat) ((w64 ((x4.length : Int) - (1 : Int))).toNat - (0 : Int).toNat)) [0] 4 rfl rfl rfl rfl rfl ⟨(len_map _), hg5.1, hg5.2.1, hg5.2.2.1, by omega, hg5.2.2.2⟩ ?_
  refine any_val hτ [] 5 rfl rfl rfl rfl rfl ?_
  refine any_val hτ [] 6 rfl rfl rfl rfl rfl ?_
  refine any_need hτ [0] 7 rfl rfl rfl rfl rfl (len_map _) ?_
  refine any_val hτ [] 8 rfl rfl rfl rfl rfl ?_
  refine bnd_elim h fun x6 hx6 h => ?_
  refine any_need hτ [0] 9 rfl rfl rfl rfl rfl (row_need hx6) ?_
  refine any_elem hτ [0] 10 rfl rfl rfl rfl rfl (len_map _) (row_get hx6) rfl ?_
  refine any_val hτ [] 11 rfl rfl rfl rfl rfl ?_
  refine any_val hτ [] 12 rfl rfl rfl rfl rfl ?_
  refine any_done mixed (by kernel_rfl) ?_
  refine aw_weak (weak_ofP [] (l := [(2, .d (.sl false ((((x4).drop (0 + (0 : Int).toNat)).take ((w64 ((x4.length : Int) - (1 : Int))).toNat - (0 : Int).toNat)).map eStr))), (3, .d (.str (bstr x6)))]) (objs := []) rfl (by simp) rfl (by repeat' first | exact trivial | refine ⟨?_, ?_⟩) ⟨(exV_sub (f := eStr) x4 rfl rfl), (exVP_sub (f := eStr) x4 rfl rfl rfl (by omega)), rfl, trivial, trivial⟩) ?_
  refine aw_ret ?_
  have hr := Option.some.inj h
  subst hr
  exact ret_objs (.inr rfl) [] (objs' := []) (new := []) rfl (by simp) (by simp) rfl (by repeat' first | exact trivial | refine ⟨?_, ?_⟩) rfl rfl (by repeat' first | exact trivial | refine ⟨?_, ?_⟩) (fun h => nomatch h) ⟨rfl, rfl, rfl⟩

def m_spec_l01Check_l1 (n : Nat) (s_ : Str) : Nat → Int → Int → Option Int
  | 0, _, _ => none
  | m13 + 1, v8, v9 =>
    if v9 < (s_.length : Int) then
      (getI s_ v9).bind fun x16 =>
      (m_spec_l01Check_l1 n s_ m13) ((w64 ((w64 ((w64 ((691 : Int) * v8)) + (w64 ((x16.toNat : Int))))) + (43 : Int))).tmod (65003 : Int)) (w64 (v9 + (1 : Int)))
    else
      some v8
def m_spec_l01Check (n : Nat) (n_ : Int) (s_ : Str) : Option Int :=
  m_spec_l01Check_l1 n s_ n n_ (0 : Int)
theorem spec_l01Check_ok_fr0 (fr : Bool) (n : Nat) (n_ : Int) (s_ : Str) {r : Int} (h : m_spec_l01Check n n_ s_ = some r) : ACall prog fr 56 [.d (.int .i64 n_), .d (.str (bstr s_))] [] (fun v o new => v = .d (.int .i64 r) ∧ o = [] ∧ new = []) := by
  refine acall_of_aw hτ func56 rfl (by simp) (by simp) ?_
  unfold m_spec_l01Check at h
  refine aw_seq ?_
  refine aw_region ?_
  refine awl_val hτ rfl rfl rfl ?_
  refine awl_nil ?_
  refine aw_seq ?_
  refine aw_seq ?_
  refine aw_region ?_
  refine awl_val hτ rfl rfl rfl ?_
  refine awl_nil ?_
  refine aw_block ?_
  refine aw_loop (ι := Nat × Int × Int) (fun (m13, v8, v9) => St.of [(0, .d (.int .i64 v8)), (1, .d (.str (bstr s_))), (5, .d (.int .i64 v9))] [] f56.ntmps 0) (fun (m13, v8, v9) => m_spec_l01Check_l1 n s_ m13 v8 v9 = some r) (fun x => x.1) (n, n_, (0 : Int)) h (weak_ofP [] (l := [(0, .d (.int .i64 n_)), (1, .d (.str (bstr s_))), (5, .d (.int .i64 (0 : Int)))]) (objs := []) rfl (by simp) rfl (by repeat' first | exact trivial | refine ⟨?_, ?_⟩) ⟨rfl, trivial, rfl, trivial, rfl, trivial, trivial⟩) ?_
  rintro ⟨m13, v8, v9⟩ h
  replace h : m_spec_l01Check_l1 n s_ m13 v8 v9 = some r := h
  rcases m13 with _ | m13
  · rw [m_spec_l01Check_l1] at h; cases h
  rw [m_spec_l01Check_l1] at h
  refine aw_seq ?_
  refine aw_seq ?_
  refine aw_region ?_
  refine awl_val hτ rfl rfl rfl ?_
  refine awl_val hτ rfl rfl rfl ?_
  refine awl_val hτ rfl rfl rfl ?_
  refine awl_val hτ rfl rfl rfl ?_
  refine awl_nil ?_
  refine aw_cond rfl (fun hc15 => ?_) (fun hc15 => ?_)
  · have h := if_t h hc15
    refine aw_skip ?_
    refine aw_seq ?_
    refine aw_block ?_
    refine aw_region ?_
    refine awl_val hτ rfl rfl rfl ?_
    refine awl_val hτ rfl rfl rfl ?_
    refine awl_val hτ rfl rfl rfl ?_
    refine awl_val hτ rfl rfl rfl ?_
    refine bnd_elim h fun x16 hx16 h => ?_
    refine awl_need hτ (v := .d (.int .u8 (x16.toNat : Int))) rfl rfl (Eq.trans rfl (or_sidx hx16)) (sidx_need hx16) ?_
    refine awl_val hτ rfl rfl rfl ?_
    refine awl_val hτ rfl rfl rfl ?_
    refine awl_val hτ rfl rfl rfl ?_
    refine awl_weak (weak_ofP [] (l := [(0, .d (.int .i64 v8)), (1, .d (.str (bstr s_))), (5, .d (.int .i64 v9)), (19, .d (.int .i64 (w64 ((w64 ((w64 ((691 : Int) * v8)) + (w64 ((x16.toNat : Int))))) + (43 : Int)))))]) (objs := []) rfl (by simp) rfl (by repeat' first | exact trivial | refine ⟨?_, ?_⟩) ⟨rfl, trivial, rfl, trivial, rfl, trivial, rfl, trivial, trivial⟩) ?_
    refine awl_need hτ rfl rfl rfl (by decide) ?_
    refine awl_val hτ rfl rfl rfl ?_
    refine awl_nil ?_
    refine aw_region ?_
    refine awl_val hτ rfl rfl rfl ?_
    refine awl_val hτ rfl rfl rfl ?_
    refine awl_val hτ rfl rfl rfl ?_
    refine awl_nil ?_
    exact ⟨(m13, ((w64 ((w64 ((w64 ((691 : Int) * v8)) + (w64 ((x16.toNat : Int))))) + (43 : Int))).tmod (65003 : Int)), (w64 (v9 + (1 : Int)))), h, Nat.lt_succ_self m13, (weak_ofP [] (l := [(0, .d (.int .i64 ((w64 ((w64 ((w64 ((691 : Int) * v8)) + (w64 ((x16.toNat : Int))))) + (43 : Int))).tmod (65003 : Int)))), (1, .d (.str (bstr s_))), (5, .d (.int .i64 (w64 (v9 + (1 : Int)))))]) (objs := []) rfl (by simp) rfl (by repeat' first | exact trivial | refine ⟨?_, ?_⟩) ⟨rfl, trivial, rfl, trivial, rfl, trivial, trivial⟩)⟩
  · have h := if_f h hc15
    refine aw_exit ?_
    refine aw_seq ?_
    refine aw_region ?_
    refine awl_val hτ rfl rfl rfl ?_
    refine awl_val hτ rfl rfl rfl ?_
    refine awl_nil ?_
    refine aw_weak (weak_ofP [] (l := [(4, .d (.int .i64 v8))]) (objs := []) rfl (by simp) rfl (by repeat' first | exact trivial | refine ⟨?_, ?_⟩) ⟨rfl, trivial, trivial⟩) ?_
    refine aw_ret ?_
    have hr := Option.some.inj h
    subst hr
    exact ret_objs (.inr rfl) [] (objs' := []) (new := []) rfl (by simp) (by simp) rfl (by repeat' first | exact trivial | refine ⟨?_, ?_⟩) rfl rfl (by repeat' first | exact trivial | refine ⟨?_, ?_⟩) (fun _ => ⟨by simp [V.flat, V.flatA, V.flatC, D.flat], flat_nil⟩) ⟨rfl, rfl, rfl⟩
theorem spec_l01Check_ok (n : Nat) (n_ : Int) (s_ : Str) {r : Int} (h : m_spec_l01Check n n_ s_ = some r) : ACall prog false 56 [.d (.int .i64 n_), .d (.str (bstr s_))] [] (fun v o new => v = .d (.int .i64 r) ∧ o = [] ∧ new = []) := spec_l01Check_ok_fr0 false n n_ s_ h
theorem spec_l01Check_ok_fr (n : Nat) (n_ : Int) (s_ : Str) {r : Int} (h : m_spec_l01Check n n_ s_ = some r) : ACall prog true 56 [.d (.int .i64 n_), .d (.str (bstr s_))] [] (fun v o new => v = .d (.int .i64 r) ∧ o = [] ∧ new = []) := spec_l01Check_ok_fr0 true n n_ s_ h

def m_spec_l01Dec_j2 (n : Nat) (v30 : List Int) : Option Str :=
  some (chars v30)
def m_spec_l01Dec_j1 (n : Nat) (n_ : Int) (v27 : List Int) : Option Str :=
  if n_ < (0 : Int) then
    grd (room ([(45 : Int)].length + v27.length) 1) <|
    m_spec_l01Dec_j2 n ([(45 : Int)] ++ v27)
  else
    m_spec_l01Dec_j2 n v27
def m_spec_l01Dec_j5 (n : Nat) (k48 : List Int → Int → Option Str) (v39 : List Int) (v40 : Int) (v52 : Int) : Option Str :=
  grd (room ([(IntKind.wrap .u8 ((w64 ((48 : Int) + v52))))].length + v39.length) 1) <|
  k48 ([(IntKind.wrap .u8 ((w64 ((48 : Int) + v52))))] ++ v39) (w64 (v40.tdiv (10 : Int)))
def m_spec_l01Dec_j4 (n : Nat) (k48 : List Int → Int → Option Str) (v39 : List Int) (v40 : Int) : Option Str :=
  if (v40.tmod (10 : Int)) < (0 : Int) then
    m_spec_l01Dec_j5 n k48 v39 v40 (w64 (0 - (v40.tmod (10 : Int))))
  else
    m_spec_l01Dec_j5 n k48 v39 v40 (v40.tmod (10 : Int))
def m_spec_l01Dec_j6 (n : Nat) (n_ : Int) (k48 : List Int → Int → Option Str) (v39 : List Int) (v40 : Int) (v59 : Bool) : Option Str :=
  if v59 = true then
    m_spec_l01Dec_j4 n k48 v39 v40
  else
    m_spec_l01Dec_j1 n n_ v39
def m_spec_l01Dec_l3 (n : Nat) (n_ : Int) : Nat → List Int → Int → Option Str
  | 0, _, _ => none
  | m47 + 1, v39, v40 =>
    if (v39.length : Int) = (0 : Int) then
      m_spec_l01Dec_j6 n n_ (m_spec_l01Dec_l3 n n_ m47) v39 v40 true
    else
      m_spec_l01Dec_j6 n n_ (m_spec_l01Dec_l3 n n_ m47) v39 v40 (!(decide (v40 = (0 : Int))))
def m_spec_l01Dec (n : Nat) (n_ : Int) : Option Str :=
  m_spec_l01Dec_l3 n n_ n ([] : List Int) n_
theorem spec_l01Dec_ok_fr0 (fr : Bool) (n : Nat) (n_ : Int) {r : Str} (h : m_spec_l01Dec n n_ = some r) : ACall prog fr 57 [.d (.int .i64 n_)] [] (fun v o new => v = .d (.str (bstr r)) ∧ o = [] ∧ new = []) := by
  refine acall_of_aw hτ func57 rfl (by simp) (by simp) ?_
  unfold m_spec_l01Dec at h
  refine aw_seq ?_
  refine aw_region ?_
  refine awl_val hτ rfl rfl rfl ?_
  refine awl_nil ?_
  refine aw_seq ?_
  refine aw_region ?_
  refine awl_valH hτ rfl rfl rfl ?_
  refine awl_val hτ rfl rfl rfl ?_
  refine awl_nil ?_
  refine aw_seq ?_
  refine aw_region ?_
  refine awl_val hτ rfl rfl rfl ?_
  refine awl_val hτ rfl rfl rfl ?_
  refine awl_nil ?_
  refine aw_hk1 (ι := List Int) (fun v27 => St.of [(0, .d (.int .i64 n_)), (3, .row 0 v27.length 0 v27.length)] [.row 1 (v27.map eIntu8)] f57.ntmps 0) (fun v27 => m_spec_l01Dec_j1 n n_ v27 = some r) ?_ (fun hk34 => ?_)
  · rintro v27 h
    replace h : m_spec_l01Dec_j1 n n_ v27 = some r := h
    unfold m_spec_l01Dec_j1 at h
    refine aw_hk1 (ι := List Int) (fun v30 => St.of [(3, .row 0 v30.length 0 v30.length)] [.row 1 (v30.map eIntu8)] f57.ntmps 0) (fun v30 => m_spec_l01Dec_j2 n v30 = some r) ?_ (fun hk31 => ?_)
    · rintro v30 h
      replace h : m_spec_l01Dec_j2 n v30 = some r := h
      unfold m_spec_l01Dec_j2 at h
      refine aw_seq ?_
      refine aw_region ?_
      refine awl_val hτ rfl rfl rfl ?_
      refine awl_x rfl rfl (x_b2s hτ (f := eIntu8) (l := v30) rfl rfl rfl rfl rfl rfl rfl (fun _ => rfl) (slice_row v30 rfl rfl) ⟨len_map _, by omega⟩) ?_
      refine awl_val hτ rfl rfl rfl ?_
      refine awl_nil ?_
      refine aw_weak (weak_ofP [] (l := [(2, .d (.str (bstr (chars v30))))]) (objs := []) rfl (by simp) rfl (by repeat' first | exact trivial | refine ⟨?_, ?_⟩) ⟨rfl, trivial, trivial⟩) ?_
      refine aw_ret ?_
      have hr := Option.some.inj h
      subst hr
      exact ret_objs (.inr rfl) [] (objs' := []) (new := []) rfl (by simp) (by simp) rfl (by repeat' first | exact trivial | refine ⟨?_, ?_⟩) rfl rfl (by repeat' first | exact trivial | refine ⟨?_, ?_⟩) (fun _ => ⟨by simp [V.flat, V.flatA, V.flatC, D.flat], flat_nil⟩) ⟨rfl, rfl, rfl⟩
    · refine aw_seq ?_
      refine aw_seq ?_
      refine aw_region ?_
      refine awl_val hτ rfl rfl rfl ?_
      refine awl_val hτ rfl rfl rfl ?_
      refine awl_nil ?_
      refine aw_cond rfl (fun hc32 => ?_) (fun hc32 => ?_)
      · have h := if_t h hc32
        refine aw_region ?_
        refine awl_valH hτ rfl rfl rfl ?_
        refine awl_val hτ rfl rfl rfl ?_
        refine grd_elim h fun hg33 h => ?_
        refine awl_needH hτ rfl rfl (Eq.trans rfl (or_append (f := eIntu8) [(45 : Int)] v27 (row_all _ rfl))) ⟨⟨len_map _, by omega⟩, len_map _, rfl, rfl, (by rw [row_all _ rfl]; exact room_map (f := eIntu8) hg33), by decide, (by rw [row_all _ rfl]; exact map_lens (f := eIntu8) (fun _ => rfl) _)⟩ ?_
        refine awl_val hτ rfl rfl rfl ?_
        refine awl_nil ?_
        refine aw_weak (weak_ofP [1] (l := [(3, .row 0 (([(45 : Int)] ++ v27).length) 0 (([(45 : Int)] ++ v27).length))]) (objs := [.row 1 (([(45 : Int)] ++ v27).map eIntu8)]) rfl (by simp) rfl (by repeat' first | exact trivial | refine ⟨?_, ?_⟩) ⟨rfl, trivial, trivial⟩) ?_
        exact hk31 ([(45 : Int)] ++ v27) h
      · have h := if_f h hc32
        refine aw_skip ?_
        refine aw_weak (weak_ofP [0] (l := [(3, .row 0 v27.length 0 v27.length)]) (objs := [.row 1 (v27.map eIntu8)]) rfl (by simp) rfl (by repeat' first | exact trivial | refine ⟨?_, ?_⟩) ⟨rfl, trivial, trivial⟩) ?_
        exact hk31 v27 h
  · refine aw_seq ?_
    refine aw_block ?_
    refine aw_loop (ι := Nat × List Int × Int) (fun (m47, v39, v40) => St.of [(0, .d (.int .i64 n_)), (3, .row 0 v39.length 0 v39.length), (4, .d (.int .i64 v40))] [.row 1 (v39.map eIntu8)] f57.ntmps 0) (fun (m47, v39, v40) => m_spec_l01Dec_l3 n n_ m47 v39 v40 = some r) (fun x => x.1) (n, ([] : List Int), n_) h (weak_ofP [0] (l := [(0, .d (.int .i64 n_)), (3, .row 0 (([] : List Int).length) 0 (([] : List Int).length)), (4, .d (.int .i64 n_))]) (objs := [.row 1 (([] : List Int).map eIntu8)]) rfl (by simp) rfl (by repeat' first | exact trivial | refine ⟨?_, ?_⟩) ⟨rfl, trivial, rfl, trivial, rfl, trivial, trivial⟩) ?_
    rintro ⟨m47, v39, v40⟩ h
    replace h : m_spec_l01Dec_l3 n n_ m47 v39 v40 = some r := h
    rcases m47 with _ | m47
    · rw [m_spec_l01Dec_l3] at h; cases h
    rw [m_spec_l01Dec_l3] at h
    refine aw_hk1 (ι := Unit) (fun _ => St.of [(0, .d (.int .i64 n_)), (3, .row 0 v39.length 0 v39.length), (4, .d (.int .i64 v40))] [.row 1 (v39.map eIntu8)] f57.ntmps 0) (fun _ => m_spec_l01Dec_j4 n (m_spec_l01Dec_l3 n n_ m47) v39 v40 = some r) ?_ (fun hk56 => ?_)
    · rintro ⟨⟩ h
      replace h : m_spec_l01Dec_j4 n (m_spec_l01Dec_l3 n n_ m47) v39 v40 = some r := h
      unfold m_spec_l01Dec_j4 at h
      refine aw_block ?_
      refine aw_seq ?_
      refine aw_region ?_
      refine awl_val hτ rfl rfl rfl ?_
      refine awl_need hτ rfl rfl rfl (by decide) ?_
      refine awl_val hτ rfl rfl rfl ?_
      refine awl_nil ?_
      refine aw_hk1 (ι := Int) (fun v52 => St.of [(0, .d (.int .i64 n_)), (3, .row 0 v39.length 0 v39.length), (4, .d (.int .i64 v40)), (5, .d (.int .i64 v52))] [.row 1 (v39.map eIntu8)] f57.ntmps 0) (fun v52 => m_spec_l01Dec_j5 n (m_spec_l01Dec_l3 n n_ m47) v39 v40 v52 = some r) ?_ (fun hk54 => ?_)
      · rintro v52 h
        replace h : m_spec_l01Dec_j5 n (m_spec_l01Dec_l3 n n_ m47) v39 v40 v52 = some r := h
        unfold m_spec_l01Dec_j5 at h
        refine aw_seq ?_
        refine aw_region ?_
        refine awl_val hτ rfl rfl rfl ?_
        refine awl_val hτ rfl rfl rfl ?_
        refine awl_val hτ rfl rfl rfl ?_
        refine awl_valH hτ rfl rfl rfl ?_
        refine awl_val hτ rfl rfl rfl ?_
        refine grd_elim h fun hg53 h => ?_
        refine awl_needH hτ rfl rfl (Eq.trans rfl (or_append (f := eIntu8) [(IntKind.wrap .u8 ((w64 ((48 : Int) + v52))))] v39 (row_all _ rfl))) ⟨⟨len_map _, by omega⟩, len_map _, rfl, rfl, (by rw [row_all _ rfl]; exact room_map (f := eIntu8) hg53), by decide, (by rw [row_all _ rfl]; exact map_lens (f := eIntu8) (fun _ => rfl) _)⟩ ?_
        refine awl_val hτ rfl rfl rfl ?_
        refine awl_nil ?_
        refine aw_weak (weak_ofP [1] (l := [(0, .d (.int .i64 n_)), (3, .row 0 (([(IntKind.wrap .u8 ((w64 ((48 : Int) + v52))))] ++ v39).length) 0 (([(IntKind.wrap .u8 ((w64 ((48 : Int) + v52))))] ++ v39).length)), (4, .d (.int .i64 v40))]) (objs := [.row 1 (([(IntKind.wrap .u8 ((w64 ((48 : Int) + v52))))] ++ v39).map eIntu8)]) rfl (by simp) rfl (by repeat' first | exact trivial | refine ⟨?_, ?_⟩) ⟨rfl, trivial, rfl, trivial, rfl, trivial, trivial⟩) ?_
        refine aw_region ?_
        refine awl_val hτ rfl rfl rfl ?_
        refine awl_need hτ rfl rfl rfl (by decide) ?_
        refine awl_val hτ rfl rfl rfl ?_
        refine awl_nil ?_
        exact ⟨(m47, ([(IntKind.wrap .u8 ((w64 ((48 : Int) + v52))))] ++ v39), (w64 (v40.tdiv (10 : Int)))), h, Nat.lt_succ_self m47, (weak_ofP [0] (l := [(0, .d (.int .i64 n_)), (3, .row 0 (([(IntKind.wrap .u8 ((w64 ((48 : Int) + v52))))] ++ v39).length) 0 (([(IntKind.wrap .u8 ((w64 ((48 : Int) + v52))))] ++ v39).length)), (4, .d (.int .i64 (w64 (v40.tdiv (10 : Int)))))]) (objs := [.row 1 (([(IntKind.wrap .u8 ((w64 ((48 : Int) + v52))))] ++ v39).map eIntu8)]) rfl (by simp) rfl (by repeat' first | exact trivial | refine ⟨?_, ?_⟩) ⟨rfl, trivial, rfl, trivial, rfl, trivial, trivial⟩)⟩
      · refine aw_seq ?_
        refine aw_seq ?_
        refine aw_region ?_
        refine awl_val hτ rfl rfl rfl ?_
        refine awl_val hτ rfl rfl rfl ?_
        refine awl_nil ?_
        refine aw_cond rfl (fun hc55 => ?_) (fun hc55 => ?_)
        · have h := if_t h hc55
          refine aw_region ?_
          refine awl_val hτ rfl rfl rfl ?_
          refine awl_val hτ rfl rfl rfl ?_
          refine awl_val hτ rfl rfl rfl ?_
          refine awl_nil ?_
          refine aw_weak (weak_ofP [0] (l := [(0, .d (.int .i64 n_)), (3, .row 0 v39.length 0 v39.length), (4, .d (.int .i64 v40)), (5, .d (.int .i64 (w64 (0 - (v40.tmod (10 : Int))))))]) (objs := [.row 1 (v39.map eIntu8)]) rfl (by simp) rfl (by repeat' first | exact trivial | refine ⟨?_, ?_⟩) ⟨rfl, trivial, rfl, trivial, rfl, trivial, rfl, trivial, trivial⟩) ?_
          exact hk54 (w64 (0 - (v40.tmod (10 : Int)))) h
        · have h := if_f h hc55
          refine aw_skip ?_
          refine aw_weak (weak_ofP [0] (l := [(0, .d (.int .i64 n_)), (3, .row 0 v39.length 0 v39.length), (4, .d (.int .i64 v40)), (5, .d (.int .i64 (v40.tmod (10 : Int))))]) (objs := [.row 1 (v39.map eIntu8)]) rfl (by simp) rfl (by repeat' first | exact trivial | refine ⟨?_, ?_⟩) ⟨rfl, trivial, rfl, trivial, rfl, trivial, rfl, trivial, trivial⟩) ?_
          exact hk54 (v40.tmod (10 : Int)) h
    · refine aw_seq ?_
      refine aw_hk1 (ι := Bool) (fun v59 => St.of [(0, .d (.int .i64 n_)), (3, .row 0 v39.length 0 v39.length), (4, .d (.int .i64 v40)), (14, .d (.bool v59))] [.row 1 (v39.map eIntu8)] f57.ntmps 0) (fun v59 => m_spec_l01Dec_j6 n n_ (m_spec_l01Dec_l3 n n_ m47) v39 v40 v59 = some r) ?_ (fun hk61 => ?_)
      · rintro v59 h
        replace h : m_spec_l01Dec_j6 n n_ (m_spec_l01Dec_l3 n n_ m47) v39 v40 v59 = some r := h
        unfold m_spec_l01Dec_j6 at h
        refine aw_cond rfl (fun hc60 => ?_) (fun hc60 => ?_)
        · have h := if_bt h hc60
          refine aw_skip ?_
          refine aw_weak (weak_ofP [0] (l := [(0, .d (.int .i64 n_)), (3, .row 0 v39.length 0 v39.length), (4, .d (.int .i64 v40))]) (objs := [.row 1 (v39.map eIntu8)]) rfl (by simp) rfl (by repeat' first | exact trivial | refine ⟨?_, ?_⟩) ⟨rfl, trivial, rfl, trivial, rfl, trivial, trivial⟩) ?_
          exact hk56 () h
        · have h := if_bf h hc60
          refine aw_exit ?_
          refine aw_weak (weak_ofP [0] (l := [(0, .d (.int .i64 n_)), (3, .row 0 v39.length 0 v39.length)]) (objs := [.row 1 (v39.map eIntu8)]) rfl (by simp) rfl (by repeat' first | exact trivial | refine ⟨?_, ?_⟩) ⟨rfl, trivial, rfl, trivial, trivial⟩) ?_
          exact hk34 v39 h
      · refine aw_seq ?_
        refine aw_region ?_
        refine awl_val hτ rfl rfl rfl ?_
        refine awl_need hτ rfl rfl rfl (len_map _) ?_
        refine awl_val hτ (v := .d (.bool (decide ((v39.length : Int) = (0 : Int))))) rfl rfl (or_ieq _ _) ?_
        refine awl_val hτ rfl rfl rfl ?_
        refine awl_split 11 rfl (fun hb62 => ?_) (fun hb62 => ?_)
        · have h := if_t h hb62
          refine awl_skip rfl rfl ?_
          refine awl_skip rfl rfl ?_
          refine awl_val hτ rfl rfl rfl ?_
          refine awl_nil ?_
          refine aw_weak (weak_ofP [0] (l := [(0, .d (.int .i64 n_)), (3, .row 0 v39.length 0 v39.length), (4, .d (.int .i64 v40)), (14, .d (.bool true))]) (objs := [.row 1 (v39.map eIntu8)]) rfl (by simp) rfl (by repeat' first | exact trivial | refine ⟨?_, ?_⟩) ⟨rfl, trivial, rfl, trivial, rfl, trivial, rfl, trivial, trivial⟩) ?_
          exact hk61 true h
        · have h := if_f h hb62
          refine awl_val hτ rfl rfl rfl ?_
          refine awl_val hτ (v := .d (.bool (!(decide (v40 = (0 : Int)))))) rfl rfl (or_ine _ _) ?_
          refine awl_val hτ rfl rfl rfl ?_
          refine awl_nil ?_
          refine aw_weak (weak_ofP [0] (l := [(0, .d (.int .i64 n_)), (3, .row 0 v39.length 0 v39.length), (4, .d (.int .i64 v40)), (14, .d (.bool (!(decide (v40 = (0 : Int))))))]) (objs := [.row 1 (v39.map eIntu8)]) rfl (by simp) rfl (by repeat' first | exact trivial | refine ⟨?_, ?_⟩) ⟨rfl, trivial, rfl, trivial, rfl, trivial, rfl, trivial, trivial⟩) ?_
          exact hk61 (!(decide (v40 = (0 : Int)))) h
theorem spec_l01Dec_ok (n : Nat) (n_ : Int) {r : Str} (h : m_spec_l01Dec n n_ = some r) : ACall prog false 57 [.d (.int .i64 n_)] [] (fun v o new => v = .d (.str (bstr r)) ∧ o = [] ∧ new = []) := spec_l01Dec_ok_fr0 false n n_ h
theorem spec_l01Dec_ok_fr (n : Nat) (n_ : Int) {r : Str} (h : m_spec_l01Dec n n_ = some r) : ACall prog true 57 [.d (.int .i64 n_)] [] (fun v o new => v = .d (.str (bstr r)) ∧ o = [] ∧ new = []) := spec_l01Dec_ok_fr0 true n n_ h

def m_spec_RecoverJournal_j2 (n : Nat) (k85 : List Str → Int → Int → Int → Option (List Str × Int × Bool)) (v63 : Int) (v103 : List Str) (v104 : Int) (v105 : Int) : Option (List Str × Int × Bool) :=
  k85 v103 v104 v105 (w64 (v63 + (1 : Int)))
def m_spec_RecoverJournal_j3 (n : Nat) (x43 : List Str × Str) (k85 : List Str → Int → Int → Int → Option (List Str × Int × Bool)) (v60 : List Str) (v61 : Int) (v62 : Int) (v63 : Int) (v117 : Int) : Option (List Str × Int × Bool) :=
  (getI x43.1 v63).bind fun x119 =>
  if v117 = (x119.length : Int) then
    some (v60, v62, true)
  else
    grd (0 ≤ (w64 (v117 + (1 : Int))) ∧ (w64 (v117 + (1 : Int))) ≤ (x119.length : Int) ∧ (x119.length : Int) ≤ (x119.length : Int)) <|
    (m_spec_l01Check n v61 (sub x119 (w64 (v117 + (1 : Int))) (x119.length : Int))).bind fun x122 =>
    grd (0 ≤ (0 : Int) ∧ (0 : Int) ≤ v117 ∧ v117 ≤ (x119.length : Int)) <|
    (m_spec_l01Dec n x122).bind fun x126 =>
    if (sub x119 (0 : Int) v117) = x126 then
      grd (room (v60.length + 1) 16) <|
      m_spec_RecoverJournal_j2 n k85 v63 (v60 ++ [(sub x119 (w64 (v117 + (1 : Int))) (x119.length : Int))]) x122 (w64 (v62 + (w64 ((x119.length : Int) + (1 : Int)))))
    else
      some (v60, v62, true)
def m_spec_RecoverJournal_j5 (n : Nat) (k141 : Int → Option (List Str × Int × Bool)) (v134 : Int) : Option (List Str × Int × Bool) :=
  k141 (w64 (v134 + (1 : Int)))
def m_spec_RecoverJournal_j6 (n : Nat) (x43 : List Str × Str) (k85 : List Str → Int → Int → Int → Option (List Str × Int × Bool)) (v60 : List Str) (v61 : Int) (v62 : Int) (v63 : Int) (k141 : Int → Option (List Str × Int × Bool)) (v134 : Int) (v151 : Bool) : Option (List Str × Int × Bool) :=
  if v151 = true then
    m_spec_RecoverJournal_j5 n k141 v134
  else
    m_spec_RecoverJournal_j3 n x43 k85 v60 v61 v62 v63 v134
def m_spec_RecoverJournal_l4 (n : Nat) (x43 : List Str × Str) (k85 : List Str → Int → Int → Int → Option (List Str × Int × Bool)) (v60 : List Str) (v61 : Int) (v62 : Int) (v63 : Int) : Nat → Int → Option (List Str × Int × Bool)
  | 0, _ => none
  | m140 + 1, v134 =>
    (getI x43.1 v63).bind fun x154 =>
    if v134 < (x154.length : Int) then
      (getI x154 v134).bind fun x156 =>
      m_spec_RecoverJournal_j6 n x43 k85 v60 v61 v62 v63 (m_spec_RecoverJournal_l4 n x43 k85 v60 v61 v62 v63 m140) v134 (!(decide ((x156.toNat : Int) = (32 : Int))))
    else
      m_spec_RecoverJournal_j6 n x43 k85 v60 v61 v62 v63 (m_spec_RecoverJournal_l4 n x43 k85 v60 v61 v62 v63 m140) v134 false
def m_spec_RecoverJournal_l1 (n : Nat) (x43 : List Str × Str) : Nat → List Str → Int → Int → Int → Option (List Str × Int × Bool)
  | 0, _, _, _, _ => none
  | m84 + 1, v60, v61, v62, v63 =>
    if v63 < (x43.1.length : Int) then
      m_spec_RecoverJournal_l4 n x43 (m_spec_RecoverJournal_l1 n x43 m84) v60 v61 v62 v63 n (0 : Int)
    else
      some (v60, v62, true)
def m_spec_RecoverJournal (n : Nat) (t_ : Str) : Option (List Str × Int × Bool) :=
  if (t_.length : Int) > (6000 : Int) then
    some (([] : List Str), (0 : Int), false)
  else
    (m_spec_l11Lines n t_).bind fun x43 =>
    m_spec_RecoverJournal_l1 n x43 n ([] : List Str) (0 : Int) (0 : Int) (0 : Int)
theorem spec_RecoverJournal_ok_fr0 (fr : Bool) (n : Nat) (t_ : Str) {r : List Str × Int × Bool} (h : m_spec_RecoverJournal n t_ = some r) : ACall prog fr 25 [.d (.str (bstr t_))] [] (fun v o new => v = .tup [.row 0 r.1.length 0 r.1.length, .d (.int .i64 r.2.1), .d (.bool r.2.2)] ∧ o = [] ∧ new = [.row 1 (r.1.map eStr)]) := by
  refine acall_of_aw hτ func25 rfl (by simp) (by simp) ?_
  unfold m_spec_RecoverJournal at h
  refine aw_seq ?_
  refine aw_region ?_
  refine awl_val hτ rfl rfl rfl ?_
  refine awl_val hτ rfl rfl rfl ?_
  refine awl_val hτ rfl rfl rfl ?_
  refine awl_nil ?_
  refine aw_seq ?_
  refine aw_seq ?_
  refine aw_region ?_
  refine awl_val hτ rfl rfl rfl ?_
  refine awl_val hτ rfl rfl rfl ?_
  refine awl_val hτ rfl rfl rfl ?_
  refine awl_nil ?_
  refine aw_weak (weak_ofP [] (l := [(0, .d (.str (bstr t_))), (15, .d (.bool (decide ((t_.length : Int) > (6000 : Int)))))]) (objs := []) rfl (by simp) rfl (by repeat' first | exact trivial | refine ⟨?_, ?_⟩) ⟨rfl, trivial, rfl, trivial, trivial⟩) ?_
  refine aw_cond rfl (fun hc42 => ?_) (fun hc42 => ?_)
  · have h := if_t h hc42
    refine aw_seq ?_
    refine aw_region ?_
    refine awl_val hτ rfl rfl rfl ?_
    refine awl_val hτ rfl rfl rfl ?_
    refine awl_val hτ rfl rfl rfl ?_
    refine awl_nil ?_
    refine aw_weak (weak_ofP [] (l := [(2, .d (.nils)), (3, .d (.int .i64 (0 : Int))), (4, .d (.bool false))]) (objs := []) rfl (by simp) rfl (by repeat' first | exact trivial | refine ⟨?_, ?_⟩) ⟨rfl, trivial, rfl, trivial, rfl, trivial, trivial⟩) ?_
    refine aw_weak (weak_relax [1] (l' := [(2, .row 0 (([] : List Str).length) 0 (([] : List Str).length)), (3, .d (.int .i64 (0 : Int))), (4, .d (.bool false))]) (objs' := []) (.cons (.c (.ghost ⟨Nat.le_of_ble_eq_true rfl, Nat.le_of_ble_eq_true rfl⟩)) (.cons (.c (.refl _)) (.cons (.c (.refl _)) .nil))) .nil) ?_
    refine aw_ret ?_
    have hr := Option.some.inj h
    subst hr
    exact ret_objs (.inr rfl) [0] (objs' := []) (new := [.row 1 (([] : List Str).map eStr)]) rfl (by simp) (by simp) rfl (by repeat' first | exact trivial | refine ⟨?_, ?_⟩) rfl rfl (by repeat' first | exact trivial | refine ⟨?_, ?_⟩) (fun _ => ⟨by simp [V.flat, V.flatA, V.flatC, D.flat], (flat_cons (flat_row eStr_flat _) flat_nil)⟩) ⟨rfl, rfl, rfl⟩
  · have h := if_f h hc42
    refine aw_skip ?_
    refine aw_seq ?_
    refine aw_region ?_
    refine awl_val hτ rfl rfl rfl ?_
    refine bnd_elim h fun x43 hx43 h => ?_
    refine awl_callP hτ false [] rfl rfl rfl (enterOk func55 rfl rfl) rfl rfl (by simp) ⟨trivial, trivial⟩ (by repeat' first | exact trivial | refine ⟨?_, ?_⟩) (spec_l11Lines_ok n t_ hx43) ?_
    rintro r0 o0 n0 ⟨rfl, rfl, rfl⟩ -
    refine awl_val hτ rfl rfl rfl ?_
    refine awl_val hτ rfl rfl rfl ?_
    refine awl_val hτ rfl rfl rfl ?_
    refine awl_val hτ rfl rfl rfl ?_
    refine awl_val hτ rfl rfl rfl ?_
    refine awl_nil ?_
    refine aw_seq ?_
    refine aw_weak (weak_ofP [] (l := [(5, .d (.sl false (x43.1.map eStr)))]) (objs := []) rfl (by simp) rfl (by repeat' first | exact trivial | refine ⟨?_, ?_⟩) ⟨rfl, trivial, trivial⟩) ?_
    refine aw_region ?_
    refine awl_valH hτ rfl rfl rfl ?_
    refine awl_val hτ rfl rfl rfl ?_
    refine awl_nil ?_
    refine aw_seq ?_
    refine aw_region ?_
    refine awl_val hτ rfl rfl rfl ?_
    refine awl_nil ?_
    refine aw_seq ?_
    refine aw_region ?_
    refine awl_val hτ rfl rfl rfl ?_
    refine awl_nil ?_
    refine aw_seq ?_
    refine aw_seq ?_
    refine aw_region ?_
    refine awl_val hτ rfl rfl rfl ?_
    refine awl_nil ?_
    refine aw_block ?_
    refine aw_loop (ι := Nat × List Str × Int × Int × Int) (fun (m84, v60, v61, v62, v63) => St.of [(5, .d (.sl false (x43.1.map eStr))), (7, .row 0 v60.length 0 v60.length), (8, .d (.int .i64 v61)), (9, .d (.int .i64 v62)), (10, .d (.int .i64 v63))] [.row 1 (v60.map eStr)] f25.ntmps 0) (fun (m84, v60, v61, v62, v63) => m_spec_RecoverJournal_l1 n x43 m84 v60 v61 v62 v63 = some r) (fun x => x.1) (n, ([] : List Str), (0 : Int), (0 : Int), (0 : Int)) h (weak_ofP [0] (l := [(5, .d (.sl false (x43.1.map eStr))), (7, .row 0 (([] : List Str).length) 0 (([] : List Str).length)), (8, .d (.int .i64 (0 : Int))), (9, .d (.int .i64 (0 : Int))), (10, .d (.int .i64 (0 : Int)))]) (objs := [.row 1 (([] : List Str).map eStr)]) rfl (by simp) rfl (by repeat' first | exact trivial | refine ⟨?_, ?_⟩) ⟨rfl, trivial, rfl, trivial, rfl, trivial, rfl, trivial, rfl, trivial, trivial⟩) ?_
    rintro ⟨m84, v60, v61, v62, v63⟩ h
    replace h : m_spec_RecoverJournal_l1 n x43 m84 v60 v61 v62 v63 = some r := h
    rcases m84 with _ | m84
    · rw [m_spec_RecoverJournal_l1] at h; cases h
    rw [m_spec_RecoverJournal_l1] at h
    refine aw_seq ?_
    refine aw_seq ?_
    refine aw_region ?_
    refine awl_val hτ rfl rfl rfl ?_
    refine awl_val hτ rfl rfl rfl ?_
    refine awl_val hτ (v := .d (.int .i64 (x43.1.length : Int))) rfl rfl (Eq.trans rfl (or_len (f := eStr) x43.1)) ?_
    refine awl_val hτ rfl rfl rfl ?_
    refine awl_nil ?_
    refine aw_cond rfl (fun hc86 => ?_) (fun hc86 => ?_)
    · have h := if_t h hc86
      refine aw_skip ?_
      refine aw_hk1 (ι := List Str × Int × Int) (fun (v103, v104, v105) => St.of [(5, .d (.sl false (x43.1.map eStr))), (7, .row 0 v103.length 0 v103.length), (8, .d (.int .i64 v104)), (9, .d (.int .i64 v105)), (10, .d (.int .i64 v63))] [.row 1 (v103.map eStr)] f25.ntmps 0) (fun (v103, v104, v105) => m_spec_RecoverJournal_j2 n (m_spec_RecoverJournal_l1 n x43 m84) v63 v103 v104 v105 = some r) ?_ (fun hk106 => ?_)
      · rintro ⟨v103, v104, v105⟩ h
        replace h : m_spec_RecoverJournal_j2 n (m_spec_RecoverJournal_l1 n x43 m84) v63 v103 v104 v105 = some r := h
        unfold m_spec_RecoverJournal_j2 at h
        refine aw_region ?_
        refine awl_val hτ rfl rfl rfl ?_
        refine awl_val hτ rfl rfl rfl ?_
        refine awl_val hτ rfl rfl rfl ?_
        refine awl_nil ?_
        exact ⟨(m84, v103, v104, v105, (w64 (v63 + (1 : Int)))), h, Nat.lt_succ_self m84, (weak_ofP [0] (l := [(5, .d (.sl false (x43.1.map eStr))), (7, .row 0 v103.length 0 v103.length), (8, .d (.int .i64 v104)), (9, .d (.int .i64 v105)), (10, .d (.int .i64 (w64 (v63 + (1 : Int)))))]) (objs := [.row 1 (v103.map eStr)]) rfl (by simp) rfl (by repeat' first | exact trivial | refine ⟨?_, ?_⟩) ⟨rfl, trivial, rfl, trivial, rfl, trivial, rfl, trivial, rfl, trivial, trivial⟩)⟩
      · refine aw_seq ?_
        refine aw_block ?_
        refine aw_seq ?_
        refine aw_region ?_
        refine awl_val hτ rfl rfl rfl ?_
        refine awl_nil ?_
        refine aw_hk1 (ι := Int) (fun v117 => St.of [(5, .d (.sl false (x43.1.map eStr))), (7, .row 0 v60.length 0 v60.length), (8, .d (.int .i64 v61)), (9, .d (.int .i64 v62)), (10, .d (.int .i64 v63)), (11, .d (.int .i64 v117))] [.row 1 (v60.map eStr)] f25.ntmps 0) (fun v117 => m_spec_RecoverJournal_j3 n x43 (m_spec_RecoverJournal_l1 n x43 m84) v60 v61 v62 v63 v117 = some r) ?_ (fun hk129 => ?_)
        · rintro v117 h
          replace h : m_spec_RecoverJournal_j3 n x43 (m_spec_RecoverJournal_l1 n x43 m84) v60 v61 v62 v63 v117 = some r := h
          unfold m_spec_RecoverJournal_j3 at h
          refine aw_seq ?_
          refine aw_seq ?_
          refine aw_region ?_
          refine awl_val hτ rfl rfl rfl ?_
          refine awl_val hτ rfl rfl rfl ?_
          refine awl_val hτ rfl rfl rfl ?_
          refine bnd_elim h fun x119 hx119 h => ?_
          refine awl_elem hτ rfl rfl rfl (getI_some hx119).1 (map_getI hx119) rfl ?_
          refine awl_val hτ rfl rfl rfl ?_
          refine awl_val hτ rfl rfl rfl ?_
          refine awl_val hτ (v := .d (.bool (decide (v117 = (x119.length : Int))))) rfl rfl (or_ieq _ _) ?_
          refine awl_nil ?_
          refine aw_weak (weak_ofP [0] (l := [(5, .d (.sl false (x43.1.map eStr))), (7, .row 0 v60.length 0 v60.length), (8, .d (.int .i64 v61)), (9, .d (.int .i64 v62)), (10, .d (.int .i64 v63)), (11, .d (.int .i64 v117)), (52, .d (.bool (decide (v117 = (x119.length : Int)))))]) (objs := [.row 1 (v60.map eStr)]) rfl (by simp) rfl (by repeat' first | exact trivial | refine ⟨?_, ?_⟩) ⟨rfl, trivial, rfl, trivial, rfl, trivial, rfl, trivial, rfl, trivial, rfl, trivial, rfl, trivial, trivial⟩) ?_
          refine aw_cond rfl (fun hc120 => ?_) (fun hc120 => ?_)
          · have h := if_t h hc120
            refine aw_exit ?_
            refine aw_seq ?_
            refine aw_region ?_
            refine awl_val hτ rfl rfl rfl ?_
            refine awl_val hτ rfl rfl rfl ?_
            refine awl_val hτ rfl rfl rfl ?_
            refine awl_val hτ rfl rfl rfl ?_
            refine awl_val hτ rfl rfl rfl ?_
            refine awl_nil ?_
            refine aw_weak (weak_ofP [0] (l := [(2, .row 0 v60.length 0 v60.length), (3, .d (.int .i64 v62)), (4, .d (.bool true))]) (objs := [.row 1 (v60.map eStr)]) rfl (by simp) rfl (by repeat' first | exact trivial | refine ⟨?_, ?_⟩) ⟨rfl, trivial, rfl, trivial, rfl, trivial, trivial⟩) ?_
            refine aw_ret ?_
            have hr := Option.some.inj h
            subst hr
            exact ret_objs (.inr rfl) [0] (objs' := []) (new := [.row 1 (v60.map eStr)]) rfl (by simp) (by simp) rfl (by repeat' first | exact trivial | refine ⟨?_, ?_⟩) rfl rfl (by repeat' first | exact trivial | refine ⟨?_, ?_⟩) (fun _ => ⟨by simp [V.flat, V.flatA, V.flatC, D.flat], (flat_cons (flat_row eStr_flat _) flat_nil)⟩) ⟨rfl, rfl, rfl⟩
          · have h := if_f h hc120
            refine aw_skip ?_
            refine aw_seq ?_
            refine aw_region ?_
            refine awl_val hτ rfl rfl rfl ?_
            refine awl_val hτ rfl rfl rfl ?_
            refine awl_elem hτ rfl rfl rfl (getI_some hx119).1 (map_getI hx119) rfl ?_
            refine awl_val hτ rfl rfl rfl ?_
            refine awl_val hτ rfl rfl rfl ?_
            refine awl_val hτ rfl rfl rfl ?_
            refine grd_elim h fun hg121 h => ?_
            refine awl_need hτ (v := .d (.str (bstr (sub x119 (w64 (v117 + (1 : Int))) (x119.length : Int))))) rfl rfl (Eq.trans rfl (or_ssub _ _ _)) hg121 ?_
            refine awl_val hτ rfl rfl rfl ?_
            refine awl_nil ?_
            refine aw_seq ?_
            refine aw_weak (weak_ofP [0] (l := [(5, .d (.sl false (x43.1.map eStr))), (7, .row 0 v60.length 0 v60.length), (8, .d (.int .i64 v61)), (9, .d (.int .i64 v62)), (10, .d (.int .i64 v63)), (11, .d (.int .i64 v117)), (12, .d (.str (bstr (sub x119 (w64 (v117 + (1 : Int))) (x119.length : Int)))))]) (objs := [.row 1 (v60.map eStr)]) rfl (by simp) rfl (by repeat' first | exact trivial | refine ⟨?_, ?_⟩) ⟨rfl, trivial, rfl, trivial, rfl, trivial, rfl, trivial, rfl, trivial, rfl, trivial, rfl, trivial, trivial⟩) ?_
            refine aw_region ?_
            refine awl_val hτ rfl rfl rfl ?_
            refine awl_val hτ rfl rfl rfl ?_
            refine bnd_elim h fun x122 hx122 h => ?_
            refine awl_callP hτ false [] rfl rfl rfl (enterOk func56 rfl rfl) rfl rfl (by simp) ⟨trivial, trivial, trivial⟩ (by repeat' first | exact trivial | refine ⟨?_, ?_⟩) (spec_l01Check_ok n v61 (sub x119 (w64 (v117 + (1 : Int))) (x119.length : Int)) hx122) ?_
            rintro r0 o0 n0 ⟨rfl, rfl, rfl⟩ -
            refine awl_val hτ rfl rfl rfl ?_
            refine awl_nil ?_
            refine aw_seq ?_
            refine aw_seq ?_
            refine any_start ?_
            refine any_val hτ [] 0 rfl rfl rfl rfl rfl ?_
            refine any_val hτ [] 1 rfl rfl rfl rfl rfl ?_
            refine any_elem hτ [] 2 rfl rfl rfl rfl rfl (getI_some hx119).1 (map_getI hx119) rfl ?_
            refine any_val hτ [] 3 rfl rfl rfl rfl rfl ?_
            refine any_val hτ [] 4 rfl rfl rfl rfl rfl ?_
            refine grd_elim h fun hg125 h => ?_
            refine any_need hτ (v := .d (.str (bstr (sub x119 (0 : Int) v117)))) [] 5 rfl rfl rfl rfl (Eq.trans rfl (or_ssub _ _ _)) hg125 ?_
            refine any_val hτ [] 6 rfl rfl rfl rfl rfl ?_
            refine bnd_elim h fun x126 hx126 h => ?_
            refine any_callP hτ false [] [0] 7 rfl rfl rfl rfl (enterOk func57 rfl rfl) rfl rfl (by simp) ⟨trivial, trivial⟩ (by repeat' first | exact trivial | refine ⟨?_, ?_⟩) (spec_l01Dec_ok n x122 hx126) ⟨rfl, trivial⟩ ?_
            refine any_val hτ (v := .d (.bool (!(decide ((sub x119 (0 : Int) v117) = x126))))) [] 8 rfl rfl rfl rfl (or_sne _ _) ?_
            refine any_done mixed (by kernel_rfl) ?_
            refine aw_weak (weak_ofP [0] (l := [(5, .d (.sl false (x43.1.map eStr))), (7, .row 0 v60.length 0 v60.length), (8, .d (.int .i64 x122)), (9, .d (.int .i64 v62)), (10, .d (.int .i64 v63)), (12, .d (.str (bstr (sub x119 (w64 (v117 + (1 : Int))) (x119.length : Int))))), (71, .d (.bool (!(decide ((sub x119 (0 : Int) v117) = x126)))))]) (objs := [.row 1 (v60.map eStr)]) rfl (by simp) rfl (by repeat' first | exact trivial | refine ⟨?_, ?_⟩) ⟨rfl, trivial, rfl, trivial, rfl, trivial, rfl, trivial, rfl, trivial, rfl, trivial, rfl, trivial, trivial⟩) ?_
            refine aw_cond rfl (fun hc127 => ?_) (fun hc127 => ?_)
            · have hc127 := not_t hc127
              have h := if_f h hc127
              refine aw_exit ?_
              refine aw_seq ?_
              refine aw_region ?_
              refine awl_val hτ rfl rfl rfl ?_
              refine awl_val hτ rfl rfl rfl ?_
              refine awl_val hτ rfl rfl rfl ?_
              refine awl_val hτ rfl rfl rfl ?_
              refine awl_val hτ rfl rfl rfl ?_
              refine awl_nil ?_
              refine aw_weak (weak_ofP [0] (l := [(2, .row 0 v60.length 0 v60.length), (3, .d (.int .i64 v62)), (4, .d (.bool true))]) (objs := [.row 1 (v60.map eStr)]) rfl (by simp) rfl (by repeat' first | exact trivial | refine ⟨?_, ?_⟩) ⟨rfl, trivial, rfl, trivial, rfl, trivial, trivial⟩) ?_
              refine aw_ret ?_
              have hr := Option.some.inj h
              subst hr
              exact ret_objs (.inr rfl) [0] (objs' := []) (new := [.row 1 (v60.map eStr)]) rfl (by simp) (by simp) rfl (by repeat' first | exact trivial | refine ⟨?_, ?_⟩) rfl rfl (by repeat' first | exact trivial | refine ⟨?_, ?_⟩) (fun _ => ⟨by simp [V.flat, V.flatA, V.flatC, D.flat], (flat_cons (flat_row eStr_flat _) flat_nil)⟩) ⟨rfl, rfl, rfl⟩
            · have hc127 := not_f hc127
              have h := if_t h hc127
              refine aw_skip ?_
              refine aw_seq ?_
              refine aw_region ?_
              refine awl_val hτ rfl rfl rfl ?_
              refine awl_val hτ rfl rfl rfl ?_
              refine awl_valH hτ rfl rfl rfl ?_
              refine grd_elim h fun hg128 h => ?_
              refine awl_needH hτ rfl rfl (Eq.trans rfl (or_append (f := eStr) v60 [(sub x119 (w64 (v117 + (1 : Int))) (x119.length : Int))] rfl)) ⟨⟨rfl, Nat.le_of_ble_eq_true rfl⟩, len_map _, rfl, rfl, hg128, by decide, (all1 rfl)⟩ ?_
              refine awl_val hτ rfl rfl rfl ?_
              refine awl_nil ?_
              refine aw_region ?_
              refine awl_val hτ rfl rfl rfl ?_
              refine awl_val hτ rfl rfl rfl ?_
              refine awl_val hτ rfl rfl rfl ?_
              refine awl_elem hτ rfl rfl rfl (getI_some hx119).1 (map_getI hx119) rfl ?_
              refine awl_val hτ rfl rfl rfl ?_
              refine awl_val hτ rfl rfl rfl ?_
              refine awl_val hτ rfl rfl rfl ?_
              refine awl_weak (weak_ofP [0] (l := [(5, .d (.sl false (x43.1.map eStr))), (7, .row 0 ((v60 ++ [(sub x119 (w64 (v117 + (1 : Int))) (x119.length : Int))]).length) 0 ((v60 ++ [(sub x119 (w64 (v117 + (1 : Int))) (x119.length : Int))]).length)), (8, .d (.int .i64 x122)), (9, .d (.int .i64 v62)), (10, .d (.int .i64 v63)), (76, .d (.int .i64 v62)), (82, .d (.int .i64 (w64 ((x119.length : Int) + (1 : Int)))))]) (objs := [.row 1 ((v60 ++ [(sub x119 (w64 (v117 + (1 : Int))) (x119.length : Int))]).map eStr)]) rfl (by simp) rfl (by repeat' first | exact trivial | refine ⟨?_, ?_⟩) ⟨rfl, trivial, rfl, trivial, rfl, trivial, rfl, trivial, rfl, trivial, rfl, trivial, rfl, trivial, trivial⟩) ?_
              refine awl_val hτ rfl rfl rfl ?_
              refine awl_val hτ rfl rfl rfl ?_
              refine awl_nil ?_
              refine aw_weak (weak_ofP [0] (l := [(5, .d (.sl false (x43.1.map eStr))), (7, .row 0 ((v60 ++ [(sub x119 (w64 (v117 + (1 : Int))) (x119.length : Int))]).length) 0 ((v60 ++ [(sub x119 (w64 (v117 + (1 : Int))) (x119.length : Int))]).length)), (8, .d (.int .i64 x122)), (9, .d (.int .i64 (w64 (v62 + (w64 ((x119.length : Int) + (1 : Int))))))), (10, .d (.int .i64 v63))]) (objs := [.row 1 ((v60 ++ [(sub x119 (w64 (v117 + (1 : Int))) (x119.length : Int))]).map eStr)]) rfl (by simp) rfl (by repeat' first | exact trivial | refine ⟨?_, ?_⟩) ⟨rfl, trivial, rfl, trivial, rfl, trivial, rfl, trivial, rfl, trivial, trivial⟩) ?_
              exact hk106 ((v60 ++ [(sub x119 (w64 (v117 + (1 : Int))) (x119.length : Int))]), x122, (w64 (v62 + (w64 ((x119.length : Int) + (1 : Int)))))) h
        · refine aw_seq ?_
          refine aw_block ?_
          refine aw_loop (ι := Nat × Int) (fun (m140, v134) => St.of [(5, .d (.sl false (x43.1.map eStr))), (7, .row 0 v60.length 0 v60.length), (8, .d (.int .i64 v61)), (9, .d (.int .i64 v62)), (10, .d (.int .i64 v63)), (11, .d (.int .i64 v134))] [.row 1 (v60.map eStr)] f25.ntmps 0) (fun (m140, v134) => m_spec_RecoverJournal_l4 n x43 (m_spec_RecoverJournal_l1 n x43 m84) v60 v61 v62 v63 m140 v134 = some r) (fun x => x.1) (n, (0 : Int)) h (weak_ofP [0] (l := [(5, .d (.sl false (x43.1.map eStr))), (7, .row 0 v60.length 0 v60.length), (8, .d (.int .i64 v61)), (9, .d (.int .i64 v62)), (10, .d (.int .i64 v63)), (11, .d (.int .i64 (0 : Int)))]) (objs := [.row 1 (v60.map eStr)]) rfl (by simp) rfl (by repeat' first | exact trivial | refine ⟨?_, ?_⟩) ⟨rfl, trivial, rfl, trivial, rfl, trivial, rfl, trivial, rfl, trivial, rfl, trivial, trivial⟩) ?_
          rintro ⟨m140, v134⟩ h
          replace h : m_spec_RecoverJournal_l4 n x43 (m_spec_RecoverJournal_l1 n x43 m84) v60 v61 v62 v63 m140 v134 = some r := h
          rcases m140 with _ | m140
          · rw [m_spec_RecoverJournal_l4] at h; cases h
          rw [m_spec_RecoverJournal_l4] at h
          refine aw_hk1 (ι := Unit) (fun _ => St.of [(5, .d (.sl false (x43.1.map eStr))), (7, .row 0 v60.length 0 v60.length), (8, .d (.int .i64 v61)), (9, .d (.int .i64 v62)), (10, .d (.int .i64 v63)), (11, .d (.int .i64 v134))] [.row 1 (v60.map eStr)] f25.ntmps 0) (fun _ => m_spec_RecoverJournal_j5 n (m_spec_RecoverJournal_l4 n x43 (m_spec_RecoverJournal_l1 n x43 m84) v60 v61 v62 v63 m140) v134 = some r) ?_ (fun hk146 => ?_)
          · rintro ⟨⟩ h
            replace h : m_spec_RecoverJournal_j5 n (m_spec_RecoverJournal_l4 n x43 (m_spec_RecoverJournal_l1 n x43 m84) v60 v61 v62 v63 m140) v134 = some r := h
            unfold m_spec_RecoverJournal_j5 at h
            refine aw_block ?_
            refine aw_region ?_
            refine awl_val hτ rfl rfl rfl ?_
            refine awl_val hτ rfl rfl rfl ?_
            refine awl_val hτ rfl rfl rfl ?_
            refine awl_nil ?_
            exact ⟨(m140, (w64 (v134 + (1 : Int)))), h, Nat.lt_succ_self m140, (weak_ofP [0] (l := [(5, .d (.sl false (x43.1.map eStr))), (7, .row 0 v60.length 0 v60.length), (8, .d (.int .i64 v61)), (9, .d (.int .i64 v62)), (10, .d (.int .i64 v63)), (11, .d (.int .i64 (w64 (v134 + (1 : Int)))))]) (objs := [.row 1 (v60.map eStr)]) rfl (by simp) rfl (by repeat' first | exact trivial | refine ⟨?_, ?_⟩) ⟨rfl, trivial, rfl, trivial, rfl, trivial, rfl, trivial, rfl, trivial, rfl, trivial, trivial⟩)⟩
          · refine aw_seq ?_
            refine aw_hk1 (ι := Bool) (fun v151 => St.of [(5, .d (.sl false (x43.1.map eStr))), (7, .row 0 v60.length 0 v60.length), (8, .d (.int .i64 v61)), (9, .d (.int .i64 v62)), (10, .d (.int .i64 v63)), (11, .d (.int .i64 v134)), (43, .d (.bool v151))] [.row 1 (v60.map eStr)] f25.ntmps 0) (fun v151 => m_spec_RecoverJournal_j6 n x43 (m_spec_RecoverJournal_l1 n x43 m84) v60 v61 v62 v63 (m_spec_RecoverJournal_l4 n x43 (m_spec_RecoverJournal_l1 n x43 m84) v60 v61 v62 v63 m140) v134 v151 = some r) ?_ (fun hk153 => ?_)
            · rintro v151 h
              replace h : m_spec_RecoverJournal_j6 n x43 (m_spec_RecoverJournal_l1 n x43 m84) v60 v61 v62 v63 (m_spec_RecoverJournal_l4 n x43 (m_spec_RecoverJournal_l1 n x43 m84) v60 v61 v62 v63 m140) v134 v151 = some r := h
              unfold m_spec_RecoverJournal_j6 at h
              refine aw_cond rfl (fun hc152 => ?_) (fun hc152 => ?_)
              · have h := if_bt h hc152
                refine aw_skip ?_
                refine aw_weak (weak_ofP [0] (l := [(5, .d (.sl false (x43.1.map eStr))), (7, .row 0 v60.length 0 v60.length), (8, .d (.int .i64 v61)), (9, .d (.int .i64 v62)), (10, .d (.int .i64 v63)), (11, .d (.int .i64 v134))]) (objs := [.row 1 (v60.map eStr)]) rfl (by simp) rfl (by repeat' first | exact trivial | refine ⟨?_, ?_⟩) ⟨rfl, trivial, rfl, trivial, rfl, trivial, rfl, trivial, rfl, trivial, rfl, trivial, trivial⟩) ?_
                exact hk146 () h
              · have h := if_bf h hc152
                refine aw_exit ?_
                refine aw_weak (weak_ofP [0] (l := [(5, .d (.sl false (x43.1.map eStr))), (7, .row 0 v60.length 0 v60.length), (8, .d (.int .i64 v61)), (9, .d (.int .i64 v62)), (10, .d (.int .i64 v63)), (11, .d (.int .i64 v134))]) (objs := [.row 1 (v60.map eStr)]) rfl (by simp) rfl (by repeat' first | exact trivial | refine ⟨?_, ?_⟩) ⟨rfl, trivial, rfl, trivial, rfl, trivial, rfl, trivial, rfl, trivial, rfl, trivial, trivial⟩) ?_
                exact hk129 v134 h
            · refine aw_seq ?_
              refine aw_region ?_
              refine awl_val hτ rfl rfl rfl ?_
              refine awl_val hτ rfl rfl rfl ?_
              refine awl_val hτ rfl rfl rfl ?_
              refine bnd_elim h fun x154 hx154 h => ?_
              refine awl_elem hτ rfl rfl rfl (getI_some hx154).1 (map_getI hx154) rfl ?_
              refine awl_val hτ rfl rfl rfl ?_
              refine awl_val hτ rfl rfl rfl ?_
              refine awl_val hτ rfl rfl rfl ?_
              refine awl_val hτ rfl rfl rfl ?_
              refine awl_split 35 rfl (fun hb155 => ?_) (fun hb155 => ?_)
              · have h := if_t h hb155
                refine awl_val hτ rfl rfl rfl ?_
                refine awl_val hτ rfl rfl rfl ?_
                refine awl_elem hτ rfl rfl rfl (getI_some hx154).1 (map_getI hx154) rfl ?_
                refine awl_val hτ rfl rfl rfl ?_
                refine awl_weak (weak_ofP [0] (l := [(5, .d (.sl false (x43.1.map eStr))), (7, .row 0 v60.length 0 v60.length), (8, .d (.int .i64 v61)), (9, .d (.int .i64 v62)), (10, .d (.int .i64 v63)), (11, .d (.int .i64 v134)), (35, .d (.bool true)), (39, .d (.str (bstr x154)))]) (objs := [.row 1 (v60.map eStr)]) rfl (by simp) rfl (by repeat' first | exact trivial | refine ⟨?_, ?_⟩) ⟨rfl, trivial, rfl, trivial, rfl, trivial, rfl, trivial, rfl, trivial, rfl, trivial, rfl, trivial, rfl, trivial, trivial⟩) ?_
                refine awl_val hτ rfl rfl rfl ?_
                refine bnd_elim h fun x156 hx156 h => ?_
                refine awl_need hτ (v := .d (.int .u8 (x156.toNat : Int))) rfl rfl (Eq.trans rfl (or_sidx hx156)) (sidx_need hx156) ?_
                refine awl_val hτ (v := .d (.bool (!(decide ((x156.toNat : Int) = (32 : Int)))))) rfl rfl (or_ine _ _) ?_
                refine awl_val hτ rfl rfl rfl ?_
                refine awl_nil ?_
                refine aw_weak (weak_ofP [0] (l := [(5, .d (.sl false (x43.1.map eStr))), (7, .row 0 v60.length 0 v60.length), (8, .d (.int .i64 v61)), (9, .d (.int .i64 v62)), (10, .d (.int .i64 v63)), (11, .d (.int .i64 v134)), (43, .d (.bool (!(decide ((x156.toNat : Int) = (32 : Int))))))]) (objs := [.row 1 (v60.map eStr)]) rfl (by simp) rfl (by repeat' first | exact trivial | refine ⟨?_, ?_⟩) ⟨rfl, trivial, rfl, trivial, rfl, trivial, rfl, trivial, rfl, trivial, rfl, trivial, rfl, trivial, trivial⟩) ?_
                exact hk153 (!(decide ((x156.toNat : Int) = (32 : Int)))) h
              · have h := if_f h hb155
                refine awl_skip rfl rfl ?_
                refine awl_skip rfl rfl ?_
                refine awl_skip rfl rfl ?_
                refine awl_skip rfl rfl ?_
                refine awl_weak (weak_ofP [0] (l := [(5, .d (.sl false (x43.1.map eStr))), (7, .row 0 v60.length 0 v60.length), (8, .d (.int .i64 v61)), (9, .d (.int .i64 v62)), (10, .d (.int .i64 v63)), (11, .d (.int .i64 v134)), (35, .d (.bool false)), (39, .und)]) (objs := [.row 1 (v60.map eStr)]) rfl (by simp) rfl (by repeat' first | exact trivial | refine ⟨?_, ?_⟩) ⟨rfl, trivial, rfl, trivial, rfl, trivial, rfl, trivial, rfl, trivial, rfl, trivial, rfl, trivial, rfl, trivial, trivial⟩) ?_
                refine awl_skip rfl rfl ?_
                refine awl_skip rfl rfl ?_
                refine awl_skip rfl rfl ?_
                refine awl_val hτ rfl rfl rfl ?_
                refine awl_nil ?_
                refine aw_weak (weak_ofP [0] (l := [(5, .d (.sl false (x43.1.map eStr))), (7, .row 0 v60.length 0 v60.length), (8, .d (.int .i64 v61)), (9, .d (.int .i64 v62)), (10, .d (.int .i64 v63)), (11, .d (.int .i64 v134)), (43, .d (.bool false))]) (objs := [.row 1 (v60.map eStr)]) rfl (by simp) rfl (by repeat' first | exact trivial | refine ⟨?_, ?_⟩) ⟨rfl, trivial, rfl, trivial, rfl, trivial, rfl, trivial, rfl, trivial, rfl, trivial, rfl, trivial, trivial⟩) ?_
                exact hk153 false h
    · have h := if_f h hc86
      refine aw_exit ?_
      refine aw_seq ?_
      refine aw_region ?_
      refine awl_val hτ rfl rfl rfl ?_
      refine awl_val hτ rfl rfl rfl ?_
      refine awl_val hτ rfl rfl rfl ?_
      refine awl_val hτ rfl rfl rfl ?_
      refine awl_val hτ rfl rfl rfl ?_
      refine awl_nil ?_
      refine aw_weak (weak_ofP [0] (l := [(2, .row 0 v60.length 0 v60.length), (3, .d (.int .i64 v62)), (4, .d (.bool true))]) (objs := [.row 1 (v60.map eStr)]) rfl (by simp) rfl (by repeat' first | exact trivial | refine ⟨?_, ?_⟩) ⟨rfl, trivial, rfl, trivial, rfl, trivial, trivial⟩) ?_
      refine aw_ret ?_
      have hr := Option.some.inj h
      subst hr
      exact ret_objs (.inr rfl) [0] (objs' := []) (new := [.row 1 (v60.map eStr)]) rfl (by simp) (by simp) rfl (by repeat' first | exact trivial | refine ⟨?_, ?_⟩) rfl rfl (by repeat' first | exact trivial | refine ⟨?_, ?_⟩) (fun _ => ⟨by simp [V.flat, V.flatA, V.flatC, D.flat], (flat_cons (flat_row eStr_flat _) flat_nil)⟩) ⟨rfl, rfl, rfl⟩
theorem spec_RecoverJournal_ok (n : Nat) (t_ : Str) {r : List Str × Int × Bool} (h : m_spec_RecoverJournal n t_ = some r) : ACall prog false 25 [.d (.str (bstr t_))] [] (fun v o new => v = .tup [.row 0 r.1.length 0 r.1.length, .d (.int .i64 r.2.1), .d (.bool r.2.2)] ∧ o = [] ∧ new = [.row 1 (r.1.map eStr)]) := spec_RecoverJournal_ok_fr0 false n t_ h
theorem spec_RecoverJournal_ok_fr (n : Nat) (t_ : Str) {r : List Str × Int × Bool} (h : m_spec_RecoverJournal n t_ = some r) : ACall prog true 25 [.d (.str (bstr t_))] [] (fun v o new => v = .tup [.row 0 r.1.length 0 r.1.length, .d (.int .i64 r.2.1), .d (.bool r.2.2)] ∧ o = [] ∧ new = [.row 1 (r.1.map eStr)]) := spec_RecoverJournal_ok_fr0 true n t_ h

def m_stringslite_IndexByte (n : Nat) (s_ : Str) (c_ : Int) : Option Int :=
  some (idxB s_ c_)
theorem stringslite_IndexByte_ok_fr0 (fr : Bool) (n : Nat) (s_ : Str) (c_ : Int) {r : Int} (h : m_stringslite_IndexByte n s_ c_ = some r) : ACall prog fr 78 [.d (.str (bstr s_)), .d (.int .u8 c_)] [] (fun v o new => v = .d (.int .i64 r) ∧ o = [] ∧ new = []) := by
  refine acall_of_aw hτ func78 rfl (by simp) (by simp) ?_
  unfold m_stringslite_IndexByte at h
  refine aw_seq ?_
  refine aw_region ?_
  refine awl_val hτ rfl rfl rfl ?_
  refine awl_nil ?_
  refine aw_seq ?_
  refine aw_region ?_
  refine awl_val hτ rfl rfl rfl ?_
  refine awl_val hτ rfl rfl rfl ?_
  refine awl_ext hτ rfl rfl rfl ext90 ?_
  refine awl_val hτ rfl rfl rfl ?_
  refine awl_nil ?_
  refine aw_weak (weak_ofP [] (l := [(4, .d (.int .i64 (idxB s_ c_)))]) (objs := []) rfl (by simp) rfl (by repeat' first | exact trivial | refine ⟨?_, ?_⟩) ⟨rfl, trivial, trivial⟩) ?_
  refine aw_ret ?_
  have hr := Option.some.inj h
  subst hr
  exact ret_objs (.inr rfl) [] (objs' := []) (new := []) rfl (by simp) (by simp) rfl (by repeat' first | exact trivial | refine ⟨?_, ?_⟩) rfl rfl (by repeat' first | exact trivial | refine ⟨?_, ?_⟩) (fun _ => ⟨by simp [V.flat, V.flatA, V.flatC, D.flat], flat_nil⟩) ⟨rfl, rfl, rfl⟩
theorem stringslite_IndexByte_ok (n : Nat) (s_ : Str) (c_ : Int) {r : Int} (h : m_stringslite_IndexByte n s_ c_ = some r) : ACall prog false 78 [.d (.str (bstr s_)), .d (.int .u8 c_)] [] (fun v o new => v = .d (.int .i64 r) ∧ o = [] ∧ new = []) := stringslite_IndexByte_ok_fr0 false n s_ c_ h
theorem stringslite_IndexByte_ok_fr (n : Nat) (s_ : Str) (c_ : Int) {r : Int} (h : m_stringslite_IndexByte n s_ c_ = some r) : ACall prog true 78 [.d (.str (bstr s_)), .d (.int .u8 c_)] [] (fun v o new => v = .d (.int .i64 r) ∧ o = [] ∧ new = []) := stringslite_IndexByte_ok_fr0 true n s_ c_ h

def m_strings_IndexByte (n : Nat) (s_ : Str) (c_ : Int) : Option Int :=
  (m_stringslite_IndexByte n s_ c_).bind fun x2 =>
  some x2
theorem strings_IndexByte_ok_fr0 (fr : Bool) (n : Nat) (s_ : Str) (c_ : Int) {r : Int} (h : m_strings_IndexByte n s_ c_ = some r) : ACall prog fr 58 [.d (.str (bstr s_)), .d (.int .u8 c_)] [] (fun v o new => v = .d (.int .i64 r) ∧ o = [] ∧ new = []) := by
  refine acall_of_aw hτ func58 rfl (by simp) (by simp) ?_
  unfold m_strings_IndexByte at h
  refine aw_seq ?_
  refine aw_region ?_
  refine awl_val hτ rfl rfl rfl ?_
  refine awl_nil ?_
  refine aw_seq ?_
  refine aw_region ?_
  refine awl_val hτ rfl rfl rfl ?_
  refine awl_val hτ rfl rfl rfl ?_
  refine bnd_elim h fun x2 hx2 h => ?_
  refine awl_callP hτ false [] rfl rfl rfl (enterOk func78 rfl rfl) rfl rfl (by simp) ⟨trivial, trivial, trivial⟩ (by repeat' first | exact trivial | refine ⟨?_, ?_⟩) (stringslite_IndexByte_ok n s_ c_ hx2) ?_
  rintro r0 o0 n0 ⟨rfl, rfl, rfl⟩ -
  refine awl_val hτ rfl rfl rfl ?_
  refine awl_nil ?_
  refine aw_weak (weak_ofP [] (l := [(4, .d (.int .i64 x2))]) (objs := []) rfl (by simp) rfl (by repeat' first | exact trivial | refine ⟨?_, ?_⟩) ⟨rfl, trivial, trivial⟩) ?_
  refine aw_ret ?_
  have hr := Option.some.inj h
  subst hr
  exact ret_objs (.inr rfl) [] (objs' := []) (new := []) rfl (by simp) (by simp) rfl (by repeat' first | exact trivial | refine ⟨?_, ?_⟩) rfl rfl (by repeat' first | exact trivial | refine ⟨?_, ?_⟩) (fun _ => ⟨by simp [V.flat, V.flatA, V.flatC, D.flat], flat_nil⟩) ⟨rfl, rfl, rfl⟩
theorem strings_IndexByte_ok (n : Nat) (s_ : Str) (c_ : Int) {r : Int} (h : m_strings_IndexByte n s_ c_ = some r) : ACall prog false 58 [.d (.str (bstr s_)), .d (.int .u8 c_)] [] (fun v o new => v = .d (.int .i64 r) ∧ o = [] ∧ new = []) := strings_IndexByte_ok_fr0 false n s_ c_ h
theorem strings_IndexByte_ok_fr (n : Nat) (s_ : Str) (c_ : Int) {r : Int} (h : m_strings_IndexByte n s_ c_ = some r) : ACall prog true 58 [.d (.str (bstr s_)), .d (.int .u8 c_)] [] (fun v o new => v = .d (.int .i64 r) ∧ o = [] ∧ new = []) := strings_IndexByte_ok_fr0 true n s_ c_ h

def m_stringslite_Index_j1 (n : Nat) (s_ : Str) (substr_ : Str) (v11 : Bool) : Option Int :=
  if v11 = true then
    some (0 : Int)
  else
    if (substr_.length : Int) = (1 : Int) then
      (getI substr_ (0 : Int)).bind fun x14 =>
      (m_stringslite_IndexByte n s_ (x14.toNat : Int)).bind fun x15 =>
      some x15
    else
      if (substr_.length : Int) ≥ (s_.length : Int) then
        some (-1 : Int)
      else
        none
def m_stringslite_Index (n : Nat) (s_ : Str) (substr_ : Str) : Option Int :=
  if (substr_.length : Int) = (0 : Int) then
    m_stringslite_Index_j1 n s_ substr_ true
  else
    m_stringslite_Index_j1 n s_ substr_ (decide (substr_ = s_))
theorem stringslite_Index_ok_fr0 (fr : Bool) (n : Nat) (s_ : Str) (substr_ : Str) {r : Int} (h : m_stringslite_Index n s_ substr_ = some r) : ACall prog fr 87 [.d (.str (bstr s_)), .d (.str (bstr substr_))] [] (fun v o new => v = .d (.int .i64 r) ∧ o = [] ∧ new = []) := by
  refine acall_of_aw hτ func87 rfl (by simp) (by simp) ?_
  unfold m_stringslite_Index at h
  refine aw_seq ?_
  refine aw_region ?_
  refine awl_val hτ rfl rfl rfl ?_
  refine awl_nil ?_
  refine aw_seq ?_
  refine aw_region ?_
  refine awl_val hτ rfl rfl rfl ?_
  refine awl_val hτ rfl rfl rfl ?_
  refine awl_val hτ rfl rfl rfl ?_
  refine awl_nil ?_
  refine aw_seq ?_
  refine aw_block ?_
  refine aw_hk1 (ι := Bool) (fun v11 => St.of [(0, .d (.str (bstr s_))), (1, .d (.str (bstr substr_))), (5, .d (.int .i64 (substr_.length : Int))), (16, .d (.bool v11))] [] f87.ntmps 0) (fun v11 => m_stringslite_Index_j1 n s_ substr_ v11 = some r) ?_ (fun hk17 => ?_)
  · rintro v11 h
    replace h : m_stringslite_Index_j1 n s_ substr_ v11 = some r := h
    unfold m_stringslite_Index_j1 at h
    refine aw_cond rfl (fun hc12 => ?_) (fun hc12 => ?_)
    · have h := if_bt h hc12
      refine aw_seq ?_
      refine aw_region ?_
      refine awl_val hτ rfl rfl rfl ?_
      refine awl_nil ?_
      refine aw_weak (weak_ofP [] (l := [(4, .d (.int .i64 (0 : Int)))]) (objs := []) rfl (by simp) rfl (by repeat' first | exact trivial | refine ⟨?_, ?_⟩) ⟨rfl, trivial, trivial⟩) ?_
      refine aw_ret ?_
      have hr := Option.some.inj h
      subst hr
      exact ret_objs (.inr rfl) [] (objs' := []) (new := []) rfl (by simp) (by simp) rfl (by repeat' first | exact trivial | refine ⟨?_, ?_⟩) rfl rfl (by repeat' first | exact trivial | refine ⟨?_, ?_⟩) (fun _ => ⟨by simp [V.flat, V.flatA, V.flatC, D.flat], flat_nil⟩) ⟨rfl, rfl, rfl⟩
    · have h := if_bf h hc12
      refine aw_seq ?_
      refine aw_region ?_
      refine awl_val hτ rfl rfl rfl ?_
      refine awl_val hτ (v := .d (.bool (decide ((substr_.length : Int) = (1 : Int))))) rfl rfl (or_ieq _ _) ?_
      refine awl_val hτ rfl rfl rfl ?_
      refine awl_nil ?_
      refine aw_cond rfl (fun hc13 => ?_) (fun hc13 => ?_)
      · have h := if_t h hc13
        refine aw_seq ?_
        refine aw_region ?_
        refine awl_val hτ rfl rfl rfl ?_
        refine awl_val hτ rfl rfl rfl ?_
        refine bnd_elim h fun x14 hx14 h => ?_
        refine awl_need hτ (v := .d (.int .u8 (x14.toNat : Int))) rfl rfl (Eq.trans rfl (or_sidx hx14)) (sidx_need hx14) ?_
        refine bnd_elim h fun x15 hx15 h => ?_
        refine awl_callP hτ false [] rfl rfl rfl (enterOk func78 rfl rfl) rfl rfl (by simp) ⟨trivial, trivial, trivial⟩ (by repeat' first | exact trivial | refine ⟨?_, ?_⟩) (stringslite_IndexByte_ok n s_ (x14.toNat : Int) hx15) ?_
        rintro r0 o0 n0 ⟨rfl, rfl, rfl⟩ -
        refine awl_val hτ rfl rfl rfl ?_
        refine awl_nil ?_
        refine aw_weak (weak_ofP [] (l := [(4, .d (.int .i64 x15))]) (objs := []) rfl (by simp) rfl (by repeat' first | exact trivial | refine ⟨?_, ?_⟩) ⟨rfl, trivial, trivial⟩) ?_
        refine aw_ret ?_
        have hr := Option.some.inj h
        subst hr
        exact ret_objs (.inr rfl) [] (objs' := []) (new := []) rfl (by simp) (by simp) rfl (by repeat' first | exact trivial | refine ⟨?_, ?_⟩) rfl rfl (by repeat' first | exact trivial | refine ⟨?_, ?_⟩) (fun _ => ⟨by simp [V.flat, V.flatA, V.flatC, D.flat], flat_nil⟩) ⟨rfl, rfl, rfl⟩
      · have h := if_f h hc13
        refine aw_seq ?_
        refine aw_region ?_
        refine awl_val hτ rfl rfl rfl ?_
        refine awl_val hτ rfl rfl rfl ?_
        refine awl_val hτ rfl rfl rfl ?_
        refine awl_val hτ rfl rfl rfl ?_
        refine awl_val hτ rfl rfl rfl ?_
        refine awl_nil ?_
        refine aw_weak (weak_ofP [] (l := [(0, .d (.str (bstr s_))), (1, .d (.str (bstr substr_))), (5, .d (.int .i64 (substr_.length : Int))), (31, .d (.bool (decide ((substr_.length : Int) ≥ (s_.length : Int)))))]) (objs := []) rfl (by simp) rfl (by repeat' first | exact trivial | refine ⟨?_, ?_⟩) ⟨rfl, trivial, rfl, trivial, rfl, trivial, rfl, trivial, trivial⟩) ?_
        refine aw_cond rfl (fun hc16 => ?_) (fun hc16 => ?_)
        · have h := if_t h hc16
          refine aw_seq ?_
          refine aw_region ?_
          refine awl_val hτ rfl rfl rfl ?_
          refine awl_nil ?_
          refine aw_weak (weak_ofP [] (l := [(4, .d (.int .i64 (-1 : Int)))]) (objs := []) rfl (by simp) rfl (by repeat' first | exact trivial | refine ⟨?_, ?_⟩) ⟨rfl, trivial, trivial⟩) ?_
          refine aw_ret ?_
          have hr := Option.some.inj h
          subst hr
          exact ret_objs (.inr rfl) [] (objs' := []) (new := []) rfl (by simp) (by simp) rfl (by repeat' first | exact trivial | refine ⟨?_, ?_⟩) rfl rfl (by repeat' first | exact trivial | refine ⟨?_, ?_⟩) (fun _ => ⟨by simp [V.flat, V.flatA, V.flatC, D.flat], flat_nil⟩) ⟨rfl, rfl, rfl⟩
        · have h := if_f h hc16
          refine aw_seq ?_
          refine aw_region ?_
          refine awl_val hτ rfl rfl rfl ?_
          exact nomatch h
  · refine aw_seq ?_
    refine aw_region ?_
    refine awl_val hτ rfl rfl rfl ?_
    refine awl_val hτ (v := .d (.bool (decide ((substr_.length : Int) = (0 : Int))))) rfl rfl (or_ieq _ _) ?_
    refine awl_val hτ rfl rfl rfl ?_
    refine awl_split 19 rfl (fun hb18 => ?_) (fun hb18 => ?_)
    · have h := if_t h hb18
      refine awl_skip rfl rfl ?_
      refine awl_skip rfl rfl ?_
      refine awl_skip rfl rfl ?_
      refine awl_val hτ rfl rfl rfl ?_
      refine awl_val hτ rfl rfl rfl ?_
      refine awl_nil ?_
      refine aw_weak (weak_ofP [] (l := [(0, .d (.str (bstr s_))), (1, .d (.str (bstr substr_))), (5, .d (.int .i64 (substr_.length : Int))), (16, .d (.bool true))]) (objs := []) rfl (by simp) rfl (by repeat' first | exact trivial | refine ⟨?_, ?_⟩) ⟨rfl, trivial, rfl, trivial, rfl, trivial, rfl, trivial, trivial⟩) ?_
      exact hk17 true h
    · have h := if_f h hb18
      refine awl_val hτ rfl rfl rfl ?_
      refine awl_val hτ rfl rfl rfl ?_
      refine awl_val hτ (v := .d (.bool (decide (substr_ = s_)))) rfl rfl (or_seq _ _) ?_
      refine awl_val hτ rfl rfl rfl ?_
      refine awl_val hτ rfl rfl rfl ?_
      refine awl_nil ?_
      refine aw_weak (weak_ofP [] (l := [(0, .d (.str (bstr s_))), (1, .d (.str (bstr substr_))), (5, .d (.int .i64 (substr_.length : Int))), (16, .d (.bool (decide (substr_ = s_))))]) (objs := []) rfl (by simp) rfl (by repeat' first | exact trivial | refine ⟨?_, ?_⟩) ⟨rfl, trivial, rfl, trivial, rfl, trivial, rfl, trivial, trivial⟩) ?_
      exact hk17 (decide (substr_ = s_)) h
theorem stringslite_Index_ok (n : Nat) (s_ : Str) (substr_ : Str) {r : Int} (h : m_stringslite_Index n s_ substr_ = some r) : ACall prog false 87 [.d (.str (bstr s_)), .d (.str (bstr substr_))] [] (fun v o new => v = .d (.int .i64 r) ∧ o = [] ∧ new = []) := stringslite_Index_ok_fr0 false n s_ substr_ h
theorem stringslite_Index_ok_fr (n : Nat) (s_ : Str) (substr_ : Str) {r : Int} (h : m_stringslite_Index n s_ substr_ = some r) : ACall prog true 87 [.d (.str (bstr s_)), .d (.str (bstr substr_))] [] (fun v o new => v = .d (.int .i64 r) ∧ o = [] ∧ new = []) := stringslite_Index_ok_fr0 true n s_ substr_ h

def m_stringslite_Cut (n : Nat) (s_ : Str) (sep_ : Str) : Option (Str × Str × Bool) :=
  (m_stringslite_Index n s_ sep_).bind fun x4 =>
  if x4 ≥ (0 : Int) then
    grd (0 ≤ (0 : Int) ∧ (0 : Int) ≤ x4 ∧ x4 ≤ (s_.length : Int)) <|
    grd (0 ≤ (w64 (x4 + (sep_.length : Int))) ∧ (w64 (x4 + (sep_.length : Int))) ≤ (s_.length : Int) ∧ (s_.length : Int) ≤ (s_.length : Int)) <|
    some ((sub s_ (0 : Int) x4), (sub s_ (w64 (x4 + (sep_.length : Int))) (s_.length : Int)), true)
  else
    some (s_, ([] : Str), false)
theorem stringslite_Cut_ok_fr0 (fr : Bool) (n : Nat) (s_ : Str) (sep_ : Str) {r : Str × Str × Bool} (h : m_stringslite_Cut n s_ sep_ = some r) : ACall prog fr 79 [.d (.str (bstr s_)), .d (.str (bstr sep_))] [] (fun v o new => v = .tup [.d (.str (bstr r.1)), .d (.str (bstr r.2.1)), .d (.bool r.2.2)] ∧ o = [] ∧ new = []) := by
  refine acall_of_aw hτ func79 rfl (by simp) (by simp) ?_
  unfold m_stringslite_Cut at h
  refine aw_seq ?_
  refine aw_region ?_
  refine awl_val hτ rfl rfl rfl ?_
  refine awl_val hτ rfl rfl rfl ?_
  refine awl_val hτ rfl rfl rfl ?_
  refine awl_nil ?_
  refine aw_seq ?_
  refine aw_seq ?_
  refine aw_region ?_
  refine awl_val hτ rfl rfl rfl ?_
  refine awl_val hτ rfl rfl rfl ?_
  refine bnd_elim h fun x4 hx4 h => ?_
  refine awl_callP hτ false [] rfl rfl rfl (enterOk func87 rfl rfl) rfl rfl (by simp) ⟨trivial, trivial, trivial⟩ (by repeat' first | exact trivial | refine ⟨?_, ?_⟩) (stringslite_Index_ok n s_ sep_ hx4) ?_
  rintro r0 o0 n0 ⟨rfl, rfl, rfl⟩ -
  refine awl_val hτ rfl rfl rfl ?_
  refine awl_nil ?_
  refine aw_seq ?_
  refine aw_weak (weak_ofP [] (l := [(0, .d (.str (bstr s_))), (1, .d (.str (bstr sep_))), (7, .d (.int .i64 x4))]) (objs := []) rfl (by simp) rfl (by repeat' first | exact trivial | refine ⟨?_, ?_⟩) ⟨rfl, trivial, rfl, trivial, rfl, trivial, trivial⟩) ?_
  refine aw_region ?_
  refine awl_val hτ rfl rfl rfl ?_
  refine awl_val hτ rfl rfl rfl ?_
  refine awl_nil ?_
  refine aw_cond rfl (fun hc5 => ?_) (fun hc5 => ?_)
  · have h := if_t h hc5
    refine aw_seq ?_
    refine any_start ?_
    refine any_val hτ [] 0 rfl rfl rfl rfl rfl ?_
    refine any_val hτ [] 1 rfl rfl rfl rfl rfl ?_
    refine grd_elim h fun hg6 h => ?_
    refine any_need hτ (v := .d (.str (bstr (sub s_ (0 : Int) x4)))) [] 2 rfl rfl rfl rfl (Eq.trans rfl (or_ssub _ _ _)) hg6 ?_
    refine any_val hτ [] 3 rfl rfl rfl rfl rfl ?_
    refine any_val hτ [] 4 rfl rfl rfl rfl rfl ?_
    refine any_val hτ [] 5 rfl rfl rfl rfl rfl ?_
    refine any_val hτ [] 6 rfl rfl rfl rfl rfl ?_
    refine any_val hτ [] 7 rfl rfl rfl rfl rfl ?_
    refine grd_elim h fun hg7 h => ?_
    refine any_need hτ (v := .d (.str (bstr (sub s_ (w64 (x4 + (sep_.length : Int))) (s_.length : Int))))) [] 8 rfl rfl rfl rfl (Eq.trans rfl (or_ssub _ _ _)) hg7 ?_
    refine any_val hτ [] 9 rfl rfl rfl rfl rfl ?_
    refine any_val hτ [] 10 rfl rfl rfl rfl rfl ?_
    refine any_val hτ [] 11 rfl rfl rfl rfl rfl ?_
    refine any_done mixed (by kernel_rfl) ?_
    refine aw_weak (weak_ofP [] (l := [(4, .d (.str (bstr (sub s_ (0 : Int) x4)))), (5, .d (.str (bstr (sub s_ (w64 (x4 + (sep_.length : Int))) (s_.length : Int))))), (6, .d (.bool true))]) (objs := []) rfl (by simp) rfl (by repeat' first | exact trivial | refine ⟨?_, ?_⟩) ⟨rfl, trivial, rfl, trivial, rfl, trivial, trivial⟩) ?_
    refine aw_ret ?_
    have hr := Option.some.inj h
    subst hr
    exact ret_objs (.inr rfl) [] (objs' := []) (new := []) rfl (by simp) (by simp) rfl (by repeat' first | exact trivial | refine ⟨?_, ?_⟩) rfl rfl (by repeat' first | exact trivial | refine ⟨?_, ?_⟩) (fun _ => ⟨by simp [V.flat, V.flatA, V.flatC, D.flat], flat_nil⟩) ⟨rfl, rfl, rfl⟩
  · have h := if_f h hc5
    refine aw_skip ?_
    refine aw_seq ?_
    refine aw_region ?_
    refine awl_val hτ rfl rfl rfl ?_
    refine awl_val hτ rfl rfl rfl ?_
    refine awl_val hτ rfl rfl rfl ?_
    refine awl_val hτ rfl rfl rfl ?_
    refine awl_nil ?_
    refine aw_weak (weak_ofP [] (l := [(4, .d (.str (bstr s_))), (5, .d (.str (bstr ([] : Str)))), (6, .d (.bool false))]) (objs := []) rfl (by simp) rfl (by repeat' first | exact trivial | refine ⟨?_, ?_⟩) ⟨rfl, trivial, rfl, trivial, rfl, trivial, trivial⟩) ?_
    refine aw_ret ?_
    have hr := Option.some.inj h
    subst hr
    exact ret_objs (.inr rfl) [] (objs' := []) (new := []) rfl (by simp) (by simp) rfl (by repeat' first | exact trivial | refine ⟨?_, ?_⟩) rfl rfl (by repeat' first | exact trivial | refine ⟨?_, ?_⟩) (fun _ => ⟨by simp [V.flat, V.flatA, V.flatC, D.flat], flat_nil⟩) ⟨rfl, rfl, rfl⟩
theorem stringslite_Cut_ok (n : Nat) (s_ : Str) (sep_ : Str) {r : Str × Str × Bool} (h : m_stringslite_Cut n s_ sep_ = some r) : ACall prog false 79 [.d (.str (bstr s_)), .d (.str (bstr sep_))] [] (fun v o new => v = .tup [.d (.str (bstr r.1)), .d (.str (bstr r.2.1)), .d (.bool r.2.2)] ∧ o = [] ∧ new = []) := stringslite_Cut_ok_fr0 false n s_ sep_ h
theorem stringslite_Cut_ok_fr (n : Nat) (s_ : Str) (sep_ : Str) {r : Str × Str × Bool} (h : m_stringslite_Cut n s_ sep_ = some r) : ACall prog true 79 [.d (.str (bstr s_)), .d (.str (bstr sep_))] [] (fun v o new => v = .tup [.d (.str (bstr r.1)), .d (.str (bstr r.2.1)), .d (.bool r.2.2)] ∧ o = [] ∧ new = []) := stringslite_Cut_ok_fr0 true n s_ sep_ h

def m_strings_Cut (n : Nat) (s_ : Str) (sep_ : Str) : Option (Str × Str × Bool) :=
  (m_stringslite_Cut n s_ sep_).bind fun x2 =>
  some (x2.1, x2.2.1, x2.2.2)
theorem strings_Cut_ok_fr0 (fr : Bool) (n : Nat) (s_ : Str) (sep_ : Str) {r : Str × Str × Bool} (h : m_strings_Cut n s_ sep_ = some r) : ACall prog fr 59 [.d (.str (bstr s_)), .d (.str (bstr sep_))] [] (fun v o new => v = .tup [.d (.str (bstr r.1)), .d (.str (bstr r.2.1)), .d (.bool r.2.2)] ∧ o = [] ∧ new = []) := by
  refine acall_of_aw hτ func59 rfl (by simp) (by simp) ?_
  unfold m_strings_Cut at h
  refine aw_seq ?_
  refine aw_region ?_
  refine awl_val hτ rfl rfl rfl ?_
  refine awl_val hτ rfl rfl rfl ?_
  refine awl_val hτ rfl rfl rfl ?_
  refine awl_nil ?_
  refine aw_seq ?_
  refine aw_region ?_
  refine awl_val hτ rfl rfl rfl ?_
  refine awl_val hτ rfl rfl rfl ?_
  refine bnd_elim h fun x2 hx2 h => ?_
  refine awl_callP hτ false [] rfl rfl rfl (enterOk func79 rfl rfl) rfl rfl (by simp) ⟨trivial, trivial, trivial⟩ (by repeat' first | exact trivial | refine ⟨?_, ?_⟩) (stringslite_Cut_ok n s_ sep_ hx2) ?_
  rintro r0 o0 n0 ⟨rfl, rfl, rfl⟩ -
  refine awl_val hτ rfl rfl rfl ?_
  refine awl_val hτ rfl rfl rfl ?_
  refine awl_val hτ rfl rfl rfl ?_
  refine awl_val hτ rfl rfl rfl ?_
  refine awl_val hτ rfl rfl rfl ?_
  refine awl_val hτ rfl rfl rfl ?_
  refine awl_nil ?_
  refine aw_weak (weak_ofP [] (l := [(4, .d (.str (bstr x2.1))), (5, .d (.str (bstr x2.2.1))), (6, .d (.bool x2.2.2))]) (objs := []) rfl (by simp) rfl (by repeat' first | exact trivial | refine ⟨?_, ?_⟩) ⟨rfl, trivial, rfl, trivial, rfl, trivial, trivial⟩) ?_
  refine aw_ret ?_
  have hr := Option.some.inj h
  subst hr
  exact ret_objs (.inr rfl) [] (objs' := []) (new := []) rfl (by simp) (by simp) rfl (by repeat' first | exact trivial | refine ⟨?_, ?_⟩) rfl rfl (by repeat' first | exact trivial | refine ⟨?_, ?_⟩) (fun _ => ⟨by simp [V.flat, V.flatA, V.flatC, D.flat], flat_nil⟩) ⟨rfl, rfl, rfl⟩
theorem strings_Cut_ok (n : Nat) (s_ : Str) (sep_ : Str) {r : Str × Str × Bool} (h : m_strings_Cut n s_ sep_ = some r) : ACall prog false 59 [.d (.str (bstr s_)), .d (.str (bstr sep_))] [] (fun v o new => v = .tup [.d (.str (bstr r.1)), .d (.str (bstr r.2.1)), .d (.bool r.2.2)] ∧ o = [] ∧ new = []) := strings_Cut_ok_fr0 false n s_ sep_ h
theorem strings_Cut_ok_fr (n : Nat) (s_ : Str) (sep_ : Str) {r : Str × Str × Bool} (h : m_strings_Cut n s_ sep_ = some r) : ACall prog true 59 [.d (.str (bstr s_)), .d (.str (bstr sep_))] [] (fun v o new => v = .tup [.d (.str (bstr r.1)), .d (.str (bstr r.2.1)), .d (.bool r.2.2)] ∧ o = [] ∧ new = []) := strings_Cut_ok_fr0 true n s_ sep_ h

def m_impl_in (n : Nat) (n_ : Int) (low_ : Int) (high_ : Int) : Option Bool :=
  if n_ ≥ low_ then
    some (decide (n_ ≤ high_))
  else
    some false
theorem impl_in_ok_fr0 (fr : Bool) (n : Nat) (n_ : Int) (low_ : Int) (high_ : Int) {r : Bool} (h : m_impl_in n n_ low_ high_ = some r) : ACall prog fr 64 [.d (.int .i64 n_), .d (.int .i64 low_), .d (.int .i64 high_)] [] (fun v o new => v = .d (.bool r) ∧ o = [] ∧ new = []) := by
  refine acall_of_aw hτ func64 rfl (by simp) (by simp) ?_
  unfold m_impl_in at h
  refine aw_seq ?_
  refine aw_region ?_
  refine awl_val hτ rfl rfl rfl ?_
  refine awl_nil ?_
  refine aw_seq ?_
  refine aw_region ?_
  refine awl_val hτ rfl rfl rfl ?_
  refine awl_val hτ rfl rfl rfl ?_
  refine awl_val hτ rfl rfl rfl ?_
  refine awl_val hτ rfl rfl rfl ?_
  refine awl_split 10 rfl (fun hb3 => ?_) (fun hb3 => ?_)
  · have h := if_t h hb3
    refine awl_val hτ rfl rfl rfl ?_
    refine awl_val hτ rfl rfl rfl ?_
    refine awl_val hτ rfl rfl rfl ?_
    refine awl_val hτ rfl rfl rfl ?_
    refine awl_val hτ rfl rfl rfl ?_
    refine awl_nil ?_
    refine aw_weak (weak_ofP [] (l := [(6, .d (.bool (decide (n_ ≤ high_))))]) (objs := []) rfl (by simp) rfl (by repeat' first | exact trivial | refine ⟨?_, ?_⟩) ⟨rfl, trivial, trivial⟩) ?_
    refine aw_ret ?_
    have hr := Option.some.inj h
    subst hr
    exact ret_objs (.inr rfl) [] (objs' := []) (new := []) rfl (by simp) (by simp) rfl (by repeat' first | exact trivial | refine ⟨?_, ?_⟩) rfl rfl (by repeat' first | exact trivial | refine ⟨?_, ?_⟩) (fun _ => ⟨by simp [V.flat, V.flatA, V.flatC, D.flat], flat_nil⟩) ⟨rfl, rfl, rfl⟩
  · have h := if_f h hb3
    refine awl_skip rfl rfl ?_
    refine awl_skip rfl rfl ?_
    refine awl_skip rfl rfl ?_
    refine awl_val hτ rfl rfl rfl ?_
    refine awl_val hτ rfl rfl rfl ?_
    refine awl_nil ?_
    refine aw_weak (weak_ofP [] (l := [(6, .d (.bool false))]) (objs := []) rfl (by simp) rfl (by repeat' first | exact trivial | refine ⟨?_, ?_⟩) ⟨rfl, trivial, trivial⟩) ?_
    refine aw_ret ?_
    have hr := Option.some.inj h
    subst hr
    exact ret_objs (.inr rfl) [] (objs' := []) (new := []) rfl (by simp) (by simp) rfl (by repeat' first | exact trivial | refine ⟨?_, ?_⟩) rfl rfl (by repeat' first | exact trivial | refine ⟨?_, ?_⟩) (fun _ => ⟨by simp [V.flat, V.flatA, V.flatC, D.flat], flat_nil⟩) ⟨rfl, rfl, rfl⟩
theorem impl_in_ok (n : Nat) (n_ : Int) (low_ : Int) (high_ : Int) {r : Bool} (h : m_impl_in n n_ low_ high_ = some r) : ACall prog false 64 [.d (.int .i64 n_), .d (.int .i64 low_), .d (.int .i64 high_)] [] (fun v o new => v = .d (.bool r) ∧ o = [] ∧ new = []) := impl_in_ok_fr0 false n n_ low_ high_ h
theorem impl_in_ok_fr (n : Nat) (n_ : Int) (low_ : Int) (high_ : Int) {r : Bool} (h : m_impl_in n n_ low_ high_ = some r) : ACall prog true 64 [.d (.int .i64 n_), .d (.int .i64 low_), .d (.int .i64 high_)] [] (fun v o new => v = .d (.bool r) ∧ o = [] ∧ new = []) := impl_in_ok_fr0 true n n_ low_ high_ h

def m_impl_CheckOf_l1 (n : Nat) (s_ : Str) : Nat → Int → Int → Option (Int × Bool)
  | 0, _, _ => none
  | m17 + 1, v12, v13 =>
    if v13 < (s_.length : Int) then
      (getI s_ v13).bind fun x20 =>
      (m_impl_CheckOf_l1 n s_ m17) ((w64 ((w64 ((w64 ((691 : Int) * v12)) + (w64 ((x20.toNat : Int))))) + (43 : Int))).tmod (65003 : Int)) (w64 (v13 + (1 : Int)))
    else
      some (v12, true)
def m_impl_CheckOf (n : Nat) (start_ : Int) (s_ : Str) : Option (Int × Bool) :=
  (m_impl_in n start_ (0 : Int) (65002 : Int)).bind fun x9 =>
  if x9 = true then
    m_impl_CheckOf_l1 n s_ n start_ (0 : Int)
  else
    some ((0 : Int), false)
theorem impl_CheckOf_ok_fr0 (fr : Bool) (n : Nat) (start_ : Int) (s_ : Str) {r : Int × Bool} (h : m_impl_CheckOf n start_ s_ = some r) : ACall prog fr 47 [.d (.int .i64 start_), .d (.str (bstr s_))] [] (fun v o new => v = .tup [.d (.int .i64 r.1), .d (.bool r.2)] ∧ o = [] ∧ new = []) := by
  refine acall_of_aw hτ func47 rfl (by simp) (by simp) ?_
  unfold m_impl_CheckOf at h
  refine aw_seq ?_
  refine aw_region ?_
  refine awl_val hτ rfl rfl rfl ?_
  refine awl_val hτ rfl rfl rfl ?_
  refine awl_nil ?_
  refine aw_seq ?_
  refine aw_seq ?_
  refine aw_region ?_
  refine awl_val hτ rfl rfl rfl ?_
  refine bnd_elim h fun x9 hx9 h => ?_
  refine awl_callP hτ false [] rfl rfl rfl (enterOk func64 rfl rfl) rfl rfl (by simp) ⟨trivial, trivial, trivial, trivial⟩ (by repeat' first | exact trivial | refine ⟨?_, ?_⟩) (impl_in_ok n start_ (0 : Int) (65002 : Int) hx9) ?_
  rintro r0 o0 n0 ⟨rfl, rfl, rfl⟩ -
  refine awl_val hτ rfl rfl rfl ?_
  refine awl_nil ?_
  refine aw_cond rfl (fun hc10 => ?_) (fun hc10 => ?_)
  · have hc10 := not_t hc10
    have h := if_bf h hc10
    refine aw_seq ?_
    refine aw_region ?_
    refine awl_val hτ rfl rfl rfl ?_
    refine awl_val hτ rfl rfl rfl ?_
    refine awl_nil ?_
    refine aw_weak (weak_ofP [] (l := [(4, .d (.int .i64 (0 : Int))), (5, .d (.bool false))]) (objs := []) rfl (by simp) rfl (by repeat' first | exact trivial | refine ⟨?_, ?_⟩) ⟨rfl, trivial, rfl, trivial, trivial⟩) ?_
    refine aw_ret ?_
    have hr := Option.some.inj h
    subst hr
    exact ret_objs (.inr rfl) [] (objs' := []) (new := []) rfl (by simp) (by simp) rfl (by repeat' first | exact trivial | refine ⟨?_, ?_⟩) rfl rfl (by repeat' first | exact trivial | refine ⟨?_, ?_⟩) (fun _ => ⟨by simp [V.flat, V.flatA, V.flatC, D.flat], flat_nil⟩) ⟨rfl, rfl, rfl⟩
  · have hc10 := not_f hc10
    have h := if_bt h hc10
    refine aw_skip ?_
    refine aw_seq ?_
    refine aw_seq ?_
    refine aw_region ?_
    refine awl_val hτ rfl rfl rfl ?_
    refine awl_val hτ rfl rfl rfl ?_
    refine awl_val hτ rfl rfl rfl ?_
    refine awl_nil ?_
    refine aw_block ?_
    refine aw_loop (ι := Nat × Int × Int) (fun (m17, v12, v13) => St.of [(0, .d (.int .i64 v12)), (1, .d (.str (bstr s_))), (11, .d (.int .i64 (s_.length : Int))), (12, .d (.int .i64 v13))] [] f47.ntmps 0) (fun (m17, v12, v13) => m_impl_CheckOf_l1 n s_ m17 v12 v13 = some r) (fun x => x.1) (n, start_, (0 : Int)) h (weak_ofP [] (l := [(0, .d (.int .i64 start_)), (1, .d (.str (bstr s_))), (11, .d (.int .i64 (s_.length : Int))), (12, .d (.int .i64 (0 : Int)))]) (objs := []) rfl (by simp) rfl (by repeat' first | exact trivial | refine ⟨?_, ?_⟩) ⟨rfl, trivial, rfl, trivial, rfl, trivial, rfl, trivial, trivial⟩) ?_
    rintro ⟨m17, v12, v13⟩ h
    replace h : m_impl_CheckOf_l1 n s_ m17 v12 v13 = some r := h
    rcases m17 with _ | m17
    · rw [m_impl_CheckOf_l1] at h; cases h
    rw [m_impl_CheckOf_l1] at h
    refine aw_seq ?_
    refine aw_region ?_
    refine awl_val hτ rfl rfl rfl ?_
    refine awl_nil ?_
    refine aw_seq ?_
    refine aw_cond rfl (fun hc19 => ?_) (fun hc19 => ?_)
    · have h := if_t h hc19
      refine aw_skip ?_
      refine aw_seq ?_
      refine aw_block ?_
      refine aw_seq ?_
      refine aw_region ?_
      refine awl_val hτ rfl rfl rfl ?_
      refine awl_val hτ rfl rfl rfl ?_
      refine awl_nil ?_
      refine aw_region ?_
      refine awl_val hτ rfl rfl rfl ?_
      refine awl_val hτ rfl rfl rfl ?_
      refine awl_val hτ rfl rfl rfl ?_
      refine awl_val hτ rfl rfl rfl ?_
      refine bnd_elim h fun x20 hx20 h => ?_
      refine awl_need hτ (v := .d (.int .u8 (x20.toNat : Int))) rfl rfl (Eq.trans rfl (or_sidx hx20)) (sidx_need hx20) ?_
      refine awl_val hτ rfl rfl rfl ?_
      refine awl_val hτ rfl rfl rfl ?_
      refine awl_val hτ rfl rfl rfl ?_
      refine awl_need hτ rfl rfl rfl (by decide) ?_
      refine awl_weak (weak_ofP [] (l := [(0, .d (.int .i64 v12)), (1, .d (.str (bstr s_))), (11, .d (.int .i64 (s_.length : Int))), (12, .d (.int .i64 v13)), (23, .d (.int .i64 ((w64 ((w64 ((w64 ((691 : Int) * v12)) + (w64 ((x20.toNat : Int))))) + (43 : Int))).tmod (65003 : Int))))]) (objs := []) rfl (by simp) rfl (by repeat' first | exact trivial | refine ⟨?_, ?_⟩) ⟨rfl, trivial, rfl, trivial, rfl, trivial, rfl, trivial, rfl, trivial, trivial⟩) ?_
      refine awl_val hτ rfl rfl rfl ?_
      refine awl_nil ?_
      refine aw_region ?_
      refine awl_val hτ rfl rfl rfl ?_
      refine awl_val hτ rfl rfl rfl ?_
      refine awl_nil ?_
      exact ⟨(m17, ((w64 ((w64 ((w64 ((691 : Int) * v12)) + (w64 ((x20.toNat : Int))))) + (43 : Int))).tmod (65003 : Int)), (w64 (v13 + (1 : Int)))), h, Nat.lt_succ_self m17, (weak_ofP [] (l := [(0, .d (.int .i64 ((w64 ((w64 ((w64 ((691 : Int) * v12)) + (w64 ((x20.toNat : Int))))) + (43 : Int))).tmod (65003 : Int)))), (1, .d (.str (bstr s_))), (11, .d (.int .i64 (s_.length : Int))), (12, .d (.int .i64 (w64 (v13 + (1 : Int)))))]) (objs := []) rfl (by simp) rfl (by repeat' first | exact trivial | refine ⟨?_, ?_⟩) ⟨rfl, trivial, rfl, trivial, rfl, trivial, rfl, trivial, trivial⟩)⟩
    · have h := if_f h hc19
      refine aw_exit ?_
      refine aw_seq ?_
      refine aw_region ?_
      refine awl_val hτ rfl rfl rfl ?_
      refine awl_val hτ rfl rfl rfl ?_
      refine awl_val hτ rfl rfl rfl ?_
      refine awl_nil ?_
      refine aw_weak (weak_ofP [] (l := [(4, .d (.int .i64 v12)), (5, .d (.bool true))]) (objs := []) rfl (by simp) rfl (by repeat' first | exact trivial | refine ⟨?_, ?_⟩) ⟨rfl, trivial, rfl, trivial, trivial⟩) ?_
      refine aw_ret ?_
      have hr := Option.some.inj h
      subst hr
      exact ret_objs (.inr rfl) [] (objs' := []) (new := []) rfl (by simp) (by simp) rfl (by repeat' first | exact trivial | refine ⟨?_, ?_⟩) rfl rfl (by repeat' first | exact trivial | refine ⟨?_, ?_⟩) (fun _ => ⟨by simp [V.flat, V.flatA, V.flatC, D.flat], flat_nil⟩) ⟨rfl, rfl, rfl⟩
theorem impl_CheckOf_ok (n : Nat) (start_ : Int) (s_ : Str) {r : Int × Bool} (h : m_impl_CheckOf n start_ s_ = some r) : ACall prog false 47 [.d (.int .i64 start_), .d (.str (bstr s_))] [] (fun v o new => v = .tup [.d (.int .i64 r.1), .d (.bool r.2)] ∧ o = [] ∧ new = []) := impl_CheckOf_ok_fr0 false n start_ s_ h
theorem impl_CheckOf_ok_fr (n : Nat) (start_ : Int) (s_ : Str) {r : Int × Bool} (h : m_impl_CheckOf n start_ s_ = some r) : ACall prog true 47 [.d (.int .i64 start_), .d (.str (bstr s_))] [] (fun v o new => v = .tup [.d (.int .i64 r.1), .d (.bool r.2)] ∧ o = [] ∧ new = []) := impl_CheckOf_ok_fr0 true n start_ s_ h

def m_strconv_FormatInt (n : Nat) (x b : Int) : Option Str := dec10 x b
theorem strconv_FormatInt_ok (n : Nat) (x b : Int) {r : Str} (h : m_strconv_FormatInt n x b = some r) : ACall prog false 74 [.d (.int .i64 x), .d (.int .i64 b)] [] (fun v o new => v = .d (.str (bstr r)) ∧ o = [] ∧ new = []) := acall_quiet (dec_does h)
theorem strconv_FormatInt_ok_fr (n : Nat) (x b : Int) {r : Str} (h : m_strconv_FormatInt n x b = some r) : ACall prog true 74 [.d (.int .i64 x), .d (.int .i64 b)] [] (fun v o new => v = .d (.str (bstr r)) ∧ o = [] ∧ new = []) := acall_quiet (dec_does h)

def m_impl_Decimal (n : Nat) (n_ : Int) : Option Str :=
  (m_strconv_FormatInt n n_ (10 : Int)).bind fun x2 =>
  some x2
theorem impl_Decimal_ok_fr0 (fr : Bool) (n : Nat) (n_ : Int) {r : Str} (h : m_impl_Decimal n n_ = some r) : ACall prog fr 49 [.d (.int .i64 n_)] [] (fun v o new => v = .d (.str (bstr r)) ∧ o = [] ∧ new = []) := by
  refine acall_of_aw hτ func49 rfl (by simp) (by simp) ?_
  unfold m_impl_Decimal at h
  refine aw_seq ?_
  refine aw_region ?_
  refine awl_val hτ rfl rfl rfl ?_
  refine awl_nil ?_
  refine aw_seq ?_
  refine aw_region ?_
  refine awl_val hτ rfl rfl rfl ?_
  refine bnd_elim h fun x2 hx2 h => ?_
  refine awl_callP hτ false [] rfl rfl rfl (enterOk func74 rfl rfl) rfl rfl (by simp) ⟨trivial, trivial, trivial⟩ (by repeat' first | exact trivial | refine ⟨?_, ?_⟩) (strconv_FormatInt_ok n n_ (10 : Int) hx2) ?_
  rintro r0 o0 n0 ⟨rfl, rfl, rfl⟩ -
  refine awl_val hτ rfl rfl rfl ?_
  refine awl_nil ?_
  refine aw_weak (weak_ofP [] (l := [(2, .d (.str (bstr x2)))]) (objs := []) rfl (by simp) rfl (by repeat' first | exact trivial | refine ⟨?_, ?_⟩) ⟨rfl, trivial, trivial⟩) ?_
  refine aw_ret ?_
  have hr := Option.some.inj h
  subst hr
  exact ret_objs (.inr rfl) [] (objs' := []) (new := []) rfl (by simp) (by simp) rfl (by repeat' first | exact trivial | refine ⟨?_, ?_⟩) rfl rfl (by repeat' first | exact trivial | refine ⟨?_, ?_⟩) (fun _ => ⟨by simp [V.flat, V.flatA, V.flatC, D.flat], flat_nil⟩) ⟨rfl, rfl, rfl⟩
theorem impl_Decimal_ok (n : Nat) (n_ : Int) {r : Str} (h : m_impl_Decimal n n_ = some r) : ACall prog false 49 [.d (.int .i64 n_)] [] (fun v o new => v = .d (.str (bstr r)) ∧ o = [] ∧ new = []) := impl_Decimal_ok_fr0 false n n_ h
theorem impl_Decimal_ok_fr (n : Nat) (n_ : Int) {r : Str} (h : m_impl_Decimal n n_ = some r) : ACall prog true 49 [.d (.int .i64 n_)] [] (fun v o new => v = .d (.str (bstr r)) ∧ o = [] ∧ new = []) := impl_Decimal_ok_fr0 true n n_ h

def m_impl_RecoverJournal_j2 (n : Nat) (k63 : List Str → Int → Int → Option (List Str × Int × Bool)) (v44 : List Str) (v45 : Int) (x65 : Int) (x68 : Str × Str × Bool) (x69 : Int × Bool) : Option (List Str × Int × Bool) :=
  grd (room (v44.length + 1) 16) <|
  k63 (v44 ++ [x68.2.1]) (w64 ((w64 (v45 + x65)) + (1 : Int))) x69.1
def m_impl_RecoverJournal_j3 (n : Nat) (k63 : List Str → Int → Int → Option (List Str × Int × Bool)) (v44 : List Str) (v45 : Int) (x65 : Int) (x68 : Str × Str × Bool) (x69 : Int × Bool) (v84 : Bool) : Option (List Str × Int × Bool) :=
  if v84 = true then
    some (v44, v45, true)
  else
    m_impl_RecoverJournal_j2 n k63 v44 v45 x65 x68 x69
def m_impl_RecoverJournal_l1 (n : Nat) (t_ : Str) : Nat → List Str → Int → Int → Option (List Str × Int × Bool)
  | 0, _, _, _ => none
  | m62 + 1, v44, v45, v46 =>
    grd (0 ≤ v45 ∧ v45 ≤ (t_.length : Int) ∧ (t_.length : Int) ≤ (t_.length : Int)) <|
    (m_strings_IndexByte n (sub t_ v45 (t_.length : Int)) (10 : Int)).bind fun x65 =>
    if x65 < (0 : Int) then
      some (v44, v45, true)
    else
      grd (0 ≤ v45 ∧ v45 ≤ (w64 (v45 + x65)) ∧ (w64 (v45 + x65)) ≤ (t_.length : Int)) <|
      (m_strings_Cut n (sub t_ v45 (w64 (v45 + x65))) ([32] : Str)).bind fun x68 =>
      (m_impl_CheckOf n v46 x68.2.1).bind fun x69 =>
      if x68.2.2 = true then
        grd (0 ≤ v45 ∧ v45 ≤ (w64 (v45 + x65)) ∧ (w64 (v45 + x65)) ≤ (t_.length : Int)) <|
        (m_impl_Decimal n x69.1).bind fun x89 =>
        grd (x89.length + ([32] : Str).length ≤ 9223372036854775807) <|
        grd ((x89 ++ ([32] : Str)).length + x68.2.1.length ≤ 9223372036854775807) <|
        m_impl_RecoverJournal_j3 n (m_impl_RecoverJournal_l1 n t_ m62) v44 v45 x65 x68 x69 (!(decide (((x89 ++ ([32] : Str)) ++ x68.2.1) = (sub t_ v45 (w64 (v45 + x65))))))
      else
        m_impl_RecoverJournal_j3 n (m_impl_RecoverJournal_l1 n t_ m62) v44 v45 x65 x68 x69 true
def m_impl_RecoverJournal (n : Nat) (t_ : Str) : Option (List Str × Int × Bool) :=
  if (t_.length : Int) > (6000 : Int) then
    some (([] : List Str), (0 : Int), false)
  else
    m_impl_RecoverJournal_l1 n t_ n ([] : List Str) (0 : Int) (0 : Int)
theorem impl_RecoverJournal_ok_fr0 (fr : Bool) (n : Nat) (t_ : Str) {r : List Str × Int × Bool} (h : m_impl_RecoverJournal n t_ = some r) : ACall prog fr 26 [.d (.str (bstr t_))] [] (fun v o new => v = .tup [.row 0 r.1.length 0 r.1.length, .d (.int .i64 r.2.1), .d (.bool r.2.2)] ∧ o = [] ∧ new = [.row 1 (r.1.map eStr)]) := by
  refine acall_of_aw hτ func26 rfl (by simp) (by simp) ?_
  unfold m_impl_RecoverJournal at h
  refine aw_seq ?_
  refine aw_region ?_
  refine awl_val hτ rfl rfl rfl ?_
  refine awl_val hτ rfl rfl rfl ?_
  refine awl_val hτ rfl rfl rfl ?_
  refine awl_nil ?_
  refine aw_seq ?_
  refine aw_seq ?_
  refine aw_region ?_
  refine awl_val hτ rfl rfl rfl ?_
  refine awl_val hτ rfl rfl rfl ?_
  refine awl_val hτ rfl rfl rfl ?_
  refine awl_nil ?_
  refine aw_weak (weak_ofP [] (l := [(0, .d (.str (bstr t_))), (16, .d (.bool (decide ((t_.length : Int) > (6000 : Int)))))]) (objs := []) rfl (by simp) rfl (by repeat' first | exact trivial | refine ⟨?_, ?_⟩) ⟨rfl, trivial, rfl, trivial, trivial⟩) ?_
  refine aw_cond rfl (fun hc31 => ?_) (fun hc31 => ?_)
  · have h := if_t h hc31
    refine aw_seq ?_
    refine aw_region ?_
    refine awl_val hτ rfl rfl rfl ?_
    refine awl_val hτ rfl rfl rfl ?_
    refine awl_val hτ rfl rfl rfl ?_
    refine awl_nil ?_
    refine aw_weak (weak_ofP [] (l := [(2, .d (.nils)), (3, .d (.int .i64 (0 : Int))), (4, .d (.bool false))]) (objs := []) rfl (by simp) rfl (by repeat' first | exact trivial | refine ⟨?_, ?_⟩) ⟨rfl, trivial, rfl, trivial, rfl, trivial, trivial⟩) ?_
    refine aw_weak (weak_relax [1] (l' := [(2, .row 0 (([] : List Str).length) 0 (([] : List Str).length)), (3, .d (.int .i64 (0 : Int))), (4, .d (.bool false))]) (objs' := []) (.cons (.c (.ghost ⟨Nat.le_of_ble_eq_true rfl, Nat.le_of_ble_eq_true rfl⟩)) (.cons (.c (.refl _)) (.cons (.c (.refl _)) .nil))) .nil) ?_
    refine aw_ret ?_
    have hr := Option.some.inj h
    subst hr
    exact ret_objs (.inr rfl) [0] (objs' := []) (new := [.row 1 (([] : List Str).map eStr)]) rfl (by simp) (by simp) rfl (by repeat' first | exact trivial | refine ⟨?_, ?_⟩) rfl rfl (by repeat' first | exact trivial | refine ⟨?_, ?_⟩) (fun _ => ⟨by simp [V.flat, V.flatA, V.flatC, D.flat], (flat_cons (flat_row eStr_flat _) flat_nil)⟩) ⟨rfl, rfl, rfl⟩
  · have h := if_f h hc31
    refine aw_skip ?_
    refine aw_seq ?_
    refine aw_region ?_
    refine awl_valH hτ rfl rfl rfl ?_
    refine awl_val hτ rfl rfl rfl ?_
    refine awl_val hτ rfl rfl rfl ?_
    refine awl_val hτ rfl rfl rfl ?_
    refine awl_nil ?_
    refine aw_seq ?_
    refine aw_block ?_
    refine aw_loop (ι := Nat × List Str × Int × Int) (fun (m62, v44, v45, v46) => St.of [(0, .d (.str (bstr t_))), (5, .row 0 v44.length 0 v44.length), (6, .d (.int .i64 v45)), (7, .d (.int .i64 v46))] [.row 1 (v44.map eStr)] f26.ntmps 0) (fun (m62, v44, v45, v46) => m_impl_RecoverJournal_l1 n t_ m62 v44 v45 v46 = some r) (fun x => x.1) (n, ([] : List Str), (0 : Int), (0 : Int)) h (weak_ofP [0] (l := [(0, .d (.str (bstr t_))), (5, .row 0 (([] : List Str).length) 0 (([] : List Str).length)), (6, .d (.int .i64 (0 : Int))), (7, .d (.int .i64 (0 : Int)))]) (objs := [.row 1 (([] : List Str).map eStr)]) rfl (by simp) rfl (by repeat' first | exact trivial | refine ⟨?_, ?_⟩) ⟨rfl, trivial, rfl, trivial, rfl, trivial, rfl, trivial, trivial⟩) ?_
    rintro ⟨m62, v44, v45, v46⟩ h
    replace h : m_impl_RecoverJournal_l1 n t_ m62 v44 v45 v46 = some r := h
    rcases m62 with _ | m62
    · rw [m_impl_RecoverJournal_l1] at h; cases h
    rw [m_impl_RecoverJournal_l1] at h
    refine aw_block ?_
    refine aw_seq ?_
    refine aw_region ?_
    refine awl_val hτ rfl rfl rfl ?_
    refine awl_val hτ rfl rfl rfl ?_
    refine grd_elim h fun hg64 h => ?_
    refine awl_need hτ (v := .d (.str (bstr (sub t_ v45 (t_.length : Int))))) rfl rfl (Eq.trans rfl (or_ssub _ _ _)) hg64 ?_
    refine bnd_elim h fun x65 hx65 h => ?_
    refine awl_callP hτ false [] rfl rfl rfl (enterOk func58 rfl rfl) rfl rfl (by simp) ⟨trivial, trivial, trivial⟩ (by repeat' first | exact trivial | refine ⟨?_, ?_⟩) (strings_IndexByte_ok n (sub t_ v45 (t_.length : Int)) (10 : Int) hx65) ?_
    rintro r0 o0 n0 ⟨rfl, rfl, rfl⟩ -
    refine awl_val hτ rfl rfl rfl ?_
    refine awl_nil ?_
    refine aw_seq ?_
    refine aw_seq ?_
    refine aw_region ?_
    refine awl_val hτ rfl rfl rfl ?_
    refine awl_val hτ rfl rfl rfl ?_
    refine awl_nil ?_
    refine aw_weak (weak_ofP [0] (l := [(0, .d (.str (bstr t_))), (5, .row 0 v44.length 0 v44.length), (6, .d (.int .i64 v45)), (7, .d (.int .i64 v46)), (8, .d (.int .i64 x65)), (23, .d (.bool (decide (x65 < (0 : Int)))))]) (objs := [.row 1 (v44.map eStr)]) rfl (by simp) rfl (by repeat' first | exact trivial | refine ⟨?_, ?_⟩) ⟨rfl, trivial, rfl, trivial, rfl, trivial, rfl, trivial, rfl, trivial, rfl, trivial, trivial⟩) ?_
    refine aw_cond rfl (fun hc66 => ?_) (fun hc66 => ?_)
    · have h := if_t h hc66
      refine aw_exit ?_
      refine aw_seq ?_
      refine aw_region ?_
      refine awl_val hτ rfl rfl rfl ?_
      refine awl_val hτ rfl rfl rfl ?_
      refine awl_val hτ rfl rfl rfl ?_
      refine awl_val hτ rfl rfl rfl ?_
      refine awl_val hτ rfl rfl rfl ?_
      refine awl_nil ?_
      refine aw_weak (weak_ofP [0] (l := [(2, .row 0 v44.length 0 v44.length), (3, .d (.int .i64 v45)), (4, .d (.bool true))]) (objs := [.row 1 (v44.map eStr)]) rfl (by simp) rfl (by repeat' first | exact trivial | refine ⟨?_, ?_⟩) ⟨rfl, trivial, rfl, trivial, rfl, trivial, trivial⟩) ?_
      refine aw_ret ?_
      have hr := Option.some.inj h
      subst hr
      exact ret_objs (.inr rfl) [0] (objs' := []) (new := [.row 1 (v44.map eStr)]) rfl (by simp) (by simp) rfl (by repeat' first | exact trivial | refine ⟨?_, ?_⟩) rfl rfl (by repeat' first | exact trivial | refine ⟨?_, ?_⟩) (fun _ => ⟨by simp [V.flat, V.flatA, V.flatC, D.flat], (flat_cons (flat_row eStr_flat _) flat_nil)⟩) ⟨rfl, rfl, rfl⟩
    · have h := if_f h hc66
      refine aw_skip ?_
      refine aw_seq ?_
      refine aw_region ?_
      refine awl_val hτ rfl rfl rfl ?_
      refine awl_val hτ rfl rfl rfl ?_
      refine awl_val hτ rfl rfl rfl ?_
      refine awl_val hτ rfl rfl rfl ?_
      refine awl_val hτ rfl rfl rfl ?_
      refine grd_elim h fun hg67 h => ?_
      refine awl_need hτ (v := .d (.str (bstr (sub t_ v45 (w64 (v45 + x65)))))) rfl rfl (Eq.trans rfl (or_ssub _ _ _)) hg67 ?_
      refine bnd_elim h fun x68 hx68 h => ?_
      refine awl_callP hτ false [] rfl rfl rfl (enterOk func59 rfl rfl) rfl rfl (by simp) ⟨trivial, trivial, trivial⟩ (by repeat' first | exact trivial | refine ⟨?_, ?_⟩) (strings_Cut_ok n (sub t_ v45 (w64 (v45 + x65))) ([32] : Str) hx68) ?_
      rintro r0 o0 n0 ⟨rfl, rfl, rfl⟩ -
      refine awl_val hτ rfl rfl rfl ?_
      refine awl_val hτ rfl rfl rfl ?_
      refine awl_val hτ rfl rfl rfl ?_
      refine awl_val hτ rfl rfl rfl ?_
      refine awl_val hτ rfl rfl rfl ?_
      refine awl_weak (weak_ofP [0] (l := [(0, .d (.str (bstr t_))), (5, .row 0 v44.length 0 v44.length), (6, .d (.int .i64 v45)), (7, .d (.int .i64 v46)), (8, .d (.int .i64 x65)), (33, .d (.str (bstr x68.2.1))), (34, .d (.bool x68.2.2))]) (objs := [.row 1 (v44.map eStr)]) rfl (by simp) rfl (by repeat' first | exact trivial | refine ⟨?_, ?_⟩) ⟨rfl, trivial, rfl, trivial, rfl, trivial, rfl, trivial, rfl, trivial, rfl, trivial, rfl, trivial, trivial⟩) ?_
      refine awl_val hτ rfl rfl rfl ?_
      refine awl_val hτ rfl rfl rfl ?_
      refine awl_nil ?_
      refine aw_seq ?_
      refine aw_region ?_
      refine awl_val hτ rfl rfl rfl ?_
      refine awl_val hτ rfl rfl rfl ?_
      refine bnd_elim h fun x69 hx69 h => ?_
      refine awl_callP hτ false [] rfl rfl rfl (enterOk func47 rfl rfl) rfl rfl (by simp) ⟨trivial, trivial, trivial⟩ (by repeat' first | exact trivial | refine ⟨?_, ?_⟩) (impl_CheckOf_ok n v46 x68.2.1 hx69) ?_
      rintro r0 o0 n0 ⟨rfl, rfl, rfl⟩ -
      refine awl_val hτ rfl rfl rfl ?_
      refine awl_val hτ rfl rfl rfl ?_
      refine awl_val hτ rfl rfl rfl ?_
      refine awl_val hτ rfl rfl rfl ?_
      refine awl_val hτ rfl rfl rfl ?_
      refine awl_nil ?_
      refine aw_hk1 (ι := Unit) (fun _ => St.of [(0, .d (.str (bstr t_))), (5, .row 0 v44.length 0 v44.length), (6, .d (.int .i64 v45)), (8, .d (.int .i64 x65)), (10, .d (.str (bstr x68.2.1))), (12, .d (.int .i64 x69.1))] [.row 1 (v44.map eStr)] f26.ntmps 0) (fun _ => m_impl_RecoverJournal_j2 n (m_impl_RecoverJournal_l1 n t_ m62) v44 v45 x65 x68 x69 = some r) ?_ (fun hk77 => ?_)
      · rintro ⟨⟩ h
        replace h : m_impl_RecoverJournal_j2 n (m_impl_RecoverJournal_l1 n t_ m62) v44 v45 x65 x68 x69 = some r := h
        unfold m_impl_RecoverJournal_j2 at h
        refine aw_region ?_
        refine awl_val hτ rfl rfl rfl ?_
        refine awl_val hτ rfl rfl rfl ?_
        refine awl_valH hτ rfl rfl rfl ?_
        refine grd_elim h fun hg76 h => ?_
        refine awl_needH hτ rfl rfl (Eq.trans rfl (or_append (f := eStr) v44 [x68.2.1] rfl)) ⟨⟨rfl, Nat.le_of_ble_eq_true rfl⟩, len_map _, rfl, rfl, hg76, by decide, (all1 rfl)⟩ ?_
        refine awl_val hτ rfl rfl rfl ?_
        refine awl_val hτ rfl rfl rfl ?_
        refine awl_val hτ rfl rfl rfl ?_
        refine awl_val hτ rfl rfl rfl ?_
        refine awl_val hτ rfl rfl rfl ?_
        refine awl_val hτ rfl rfl rfl ?_
        refine awl_val hτ rfl rfl rfl ?_
        refine awl_val hτ rfl rfl rfl ?_
        refine awl_nil ?_
        exact ⟨(m62, (v44 ++ [x68.2.1]), (w64 ((w64 (v45 + x65)) + (1 : Int))), x69.1), h, Nat.lt_succ_self m62, (weak_ofP [0] (l := [(0, .d (.str (bstr t_))), (5, .row 0 ((v44 ++ [x68.2.1]).length) 0 ((v44 ++ [x68.2.1]).length)), (6, .d (.int .i64 (w64 ((w64 (v45 + x65)) + (1 : Int))))), (7, .d (.int .i64 x69.1))]) (objs := [.row 1 ((v44 ++ [x68.2.1]).map eStr)]) rfl (by simp) rfl (by repeat' first | exact trivial | refine ⟨?_, ?_⟩) ⟨rfl, trivial, rfl, trivial, rfl, trivial, rfl, trivial, trivial⟩)⟩
      · refine aw_seq ?_
        refine aw_hk1 (ι := Bool) (fun v84 => St.of [(0, .d (.str (bstr t_))), (5, .row 0 v44.length 0 v44.length), (6, .d (.int .i64 v45)), (8, .d (.int .i64 x65)), (10, .d (.str (bstr x68.2.1))), (12, .d (.int .i64 x69.1)), (56, .d (.bool v84))] [.row 1 (v44.map eStr)] f26.ntmps 0) (fun v84 => m_impl_RecoverJournal_j3 n (m_impl_RecoverJournal_l1 n t_ m62) v44 v45 x65 x68 x69 v84 = some r) ?_ (fun hk86 => ?_)
        · rintro v84 h
          replace h : m_impl_RecoverJournal_j3 n (m_impl_RecoverJournal_l1 n t_ m62) v44 v45 x65 x68 x69 v84 = some r := h
          unfold m_impl_RecoverJournal_j3 at h
          refine aw_cond rfl (fun hc85 => ?_) (fun hc85 => ?_)
          · have h := if_bt h hc85
            refine aw_exit ?_
            refine aw_seq ?_
            refine aw_region ?_
            refine awl_val hτ rfl rfl rfl ?_
            refine awl_val hτ rfl rfl rfl ?_
            refine awl_val hτ rfl rfl rfl ?_
            refine awl_val hτ rfl rfl rfl ?_
            refine awl_val hτ rfl rfl rfl ?_
            refine awl_nil ?_
            refine aw_weak (weak_ofP [0] (l := [(2, .row 0 v44.length 0 v44.length), (3, .d (.int .i64 v45)), (4, .d (.bool true))]) (objs := [.row 1 (v44.map eStr)]) rfl (by simp) rfl (by repeat' first | exact trivial | refine ⟨?_, ?_⟩) ⟨rfl, trivial, rfl, trivial, rfl, trivial, trivial⟩) ?_
            refine aw_ret ?_
            have hr := Option.some.inj h
            subst hr
            exact ret_objs (.inr rfl) [0] (objs' := []) (new := [.row 1 (v44.map eStr)]) rfl (by simp) (by simp) rfl (by repeat' first | exact trivial | refine ⟨?_, ?_⟩) rfl rfl (by repeat' first | exact trivial | refine ⟨?_, ?_⟩) (fun _ => ⟨by simp [V.flat, V.flatA, V.flatC, D.flat], (flat_cons (flat_row eStr_flat _) flat_nil)⟩) ⟨rfl, rfl, rfl⟩
          · have h := if_bf h hc85
            refine aw_skip ?_
            refine aw_weak (weak_ofP [0] (l := [(0, .d (.str (bstr t_))), (5, .row 0 v44.length 0 v44.length), (6, .d (.int .i64 v45)), (8, .d (.int .i64 x65)), (10, .d (.str (bstr x68.2.1))), (12, .d (.int .i64 x69.1))]) (objs := [.row 1 (v44.map eStr)]) rfl (by simp) rfl (by repeat' first | exact trivial | refine ⟨?_, ?_⟩) ⟨rfl, trivial, rfl, trivial, rfl, trivial, rfl, trivial, rfl, trivial, rfl, trivial, trivial⟩) ?_
            exact hk77 () h
        · refine aw_seq ?_
          refine aw_weak (weak_ofP [0] (l := [(0, .d (.str (bstr t_))), (5, .row 0 v44.length 0 v44.length), (6, .d (.int .i64 v45)), (8, .d (.int .i64 x65)), (10, .d (.str (bstr x68.2.1))), (11, .d (.bool x68.2.2)), (12, .d (.int .i64 x69.1))]) (objs := [.row 1 (v44.map eStr)]) rfl (by simp) rfl (by repeat' first | exact trivial | refine ⟨?_, ?_⟩) ⟨rfl, trivial, rfl, trivial, rfl, trivial, rfl, trivial, rfl, trivial, rfl, trivial, rfl, trivial, trivial⟩) ?_
          refine any_start ?_
          refine any_val hτ [] 0 rfl rfl rfl rfl rfl ?_
          refine any_val hτ [] 1 rfl rfl rfl rfl rfl ?_
          refine any_val hτ [] 2 rfl rfl rfl rfl rfl ?_
          refine any_split 43 rfl (fun hb87 => ?_) (fun hb87 => ?_)
          · have hb87 := not_t hb87
            have h := if_bf h hb87
            refine any_skip 3 rfl rfl rfl ?_
            refine any_skip 6 rfl rfl rfl ?_
            refine any_skip 8 rfl rfl rfl ?_
            refine any_skip 9 rfl rfl rfl ?_
            refine any_skip 10 rfl rfl rfl ?_
            refine any_skip 11 rfl rfl rfl ?_
            refine any_skip 12 rfl rfl rfl ?_
            refine any_skip 13 rfl rfl rfl ?_
            refine any_skip 4 rfl rfl rfl ?_
            refine any_skip 5 rfl rfl rfl ?_
            refine any_skip 7 rfl rfl rfl ?_
            refine any_skip 14 rfl rfl rfl ?_
            refine any_val hτ [] 15 rfl rfl rfl rfl rfl ?_
            refine any_done mixed (by kernel_rfl) ?_
            refine aw_weak (weak_ofP [0] (l := [(0, .d (.str (bstr t_))), (5, .row 0 v44.length 0 v44.length), (6, .d (.int .i64 v45)), (8, .d (.int .i64 x65)), (10, .d (.str (bstr x68.2.1))), (12, .d (.int .i64 x69.1)), (56, .d (.bool true))]) (objs := [.row 1 (v44.map eStr)]) rfl (by simp) rfl (by repeat' first | exact trivial | refine ⟨?_, ?_⟩) ⟨rfl, trivial, rfl, trivial, rfl, trivial, rfl, trivial, rfl, trivial, rfl, trivial, rfl, trivial, trivial⟩) ?_
            exact hk86 true h
          · have hb87 := not_f hb87
            have h := if_bt h hb87
            refine any_val hτ [] 3 rfl rfl rfl rfl rfl ?_
            refine any_val hτ [] 6 rfl rfl rfl rfl rfl ?_
            refine any_val hτ [] 8 rfl rfl rfl rfl rfl ?_
            refine any_val hτ [] 9 rfl rfl rfl rfl rfl ?_
            refine any_val hτ [] 10 rfl rfl rfl rfl rfl ?_
            refine any_val hτ [] 11 rfl rfl rfl rfl rfl ?_
            refine any_val hτ [] 12 rfl rfl rfl rfl rfl ?_
            refine grd_elim h fun hg88 h => ?_
            refine any_need hτ (v := .d (.str (bstr (sub t_ v45 (w64 (v45 + x65)))))) [] 13 rfl rfl rfl rfl (Eq.trans rfl (or_ssub _ _ _)) hg88 ?_
            refine bnd_elim h fun x89 hx89 h => ?_
            refine any_callP hτ false [] [0] 4 rfl rfl rfl rfl (enterOk func49 rfl rfl) rfl rfl (by simp) ⟨trivial, trivial⟩ (by repeat' first | exact trivial | refine ⟨?_, ?_⟩) (impl_Decimal_ok n x69.1 hx89) ⟨rfl, trivial⟩ ?_
            refine grd_elim h fun hg90 h => ?_
            refine any_need hτ (v := .d (.str (bstr (x89 ++ ([32] : Str))))) [] 5 rfl rfl rfl rfl (Eq.trans rfl (or_cat _ _)) hg90 ?_
            refine grd_elim h fun hg91 h => ?_
            refine any_need hτ (v := .d (.str (bstr ((x89 ++ ([32] : Str)) ++ x68.2.1)))) [] 7 rfl rfl rfl rfl (Eq.trans rfl (or_cat _ _)) hg91 ?_
            refine any_val hτ (v := .d (.bool (!(decide (((x89 ++ ([32] : Str)) ++ x68.2.1) = (sub t_ v45 (w64 (v45 + x65)))))))) [] 14 rfl rfl rfl rfl (or_sne _ _) ?_
            refine any_val hτ [] 15 rfl rfl rfl rfl rfl ?_
            refine any_done mixed (by kernel_rfl) ?_
            refine aw_weak (weak_ofP [0] (l := [(0, .d (.str (bstr t_))), (5, .row 0 v44.length 0 v44.length), (6, .d (.int .i64 v45)), (8, .d (.int .i64 x65)), (10, .d (.str (bstr x68.2.1))), (12, .d (.int .i64 x69.1)), (56, .d (.bool (!(decide (((x89 ++ ([32] : Str)) ++ x68.2.1) = (sub t_ v45 (w64 (v45 + x65))))))))]) (objs := [.row 1 (v44.map eStr)]) rfl (by simp) rfl (by repeat' first | exact trivial | refine ⟨?_, ?_⟩) ⟨rfl, trivial, rfl, trivial, rfl, trivial, rfl, trivial, rfl, trivial, rfl, trivial, rfl, trivial, trivial⟩) ?_
            exact hk86 (!(decide (((x89 ++ ([32] : Str)) ++ x68.2.1) = (sub t_ v45 (w64 (v45 + x65)))))) h
theorem impl_RecoverJournal_ok (n : Nat) (t_ : Str) {r : List Str × Int × Bool} (h : m_impl_RecoverJournal n t_ = some r) : ACall prog false 26 [.d (.str (bstr t_))] [] (fun v o new => v = .tup [.row 0 r.1.length 0 r.1.length, .d (.int .i64 r.2.1), .d (.bool r.2.2)] ∧ o = [] ∧ new = [.row 1 (r.1.map eStr)]) := impl_RecoverJournal_ok_fr0 false n t_ h
theorem impl_RecoverJournal_ok_fr (n : Nat) (t_ : Str) {r : List Str × Int × Bool} (h : m_impl_RecoverJournal n t_ = some r) : ACall prog true 26 [.d (.str (bstr t_))] [] (fun v o new => v = .tup [.row 0 r.1.length 0 r.1.length, .d (.int .i64 r.2.1), .d (.bool r.2.2)] ∧ o = [] ∧ new = [.row 1 (r.1.map eStr)]) := impl_RecoverJournal_ok_fr0 true n t_ h

def m_laws_eqStringS_l1 (n : Nat) (a_ : List Str) (b_ : List Str) : Nat → Int → Option Bool
  | 0, _ => none
  | m14 + 1, v10 =>
    if v10 < (a_.length : Int) then
      (getI a_ v10).bind fun x19 =>
      (getI b_ v10).bind fun x20 =>
      if x19 = x20 then
        (m_laws_eqStringS_l1 n a_ b_ m14) (w64 (v10 + (1 : Int)))
      else
        some false
    else
      some true
def m_laws_eqStringS (n : Nat) (a_ : List Str) (b_ : List Str) : Option Bool :=
  if (a_.length : Int) = (b_.length : Int) then
    m_laws_eqStringS_l1 n a_ b_ n (0 : Int)
  else
    some false
theorem laws_eqStringS_ok_fr0 (fr : Bool) (n : Nat) (a_ : List Str) (b_ : List Str) {r : Bool} (h : m_laws_eqStringS n a_ b_ = some r) : ACall prog fr 22 [.d (.sl false (a_.map eStr)), .d (.sl false (b_.map eStr))] [] (fun v o new => v = .d (.bool r) ∧ o = [] ∧ new = []) := by
  refine acall_of_aw hτ func22 rfl (by simp) (by simp) ?_
  unfold m_laws_eqStringS at h
  refine aw_seq ?_
  refine aw_region ?_
  refine awl_val hτ rfl rfl rfl ?_
  refine awl_nil ?_
  refine aw_seq ?_
  refine aw_seq ?_
  refine aw_region ?_
  refine awl_val hτ rfl rfl rfl ?_
  refine awl_val hτ (v := .d (.int .i64 (a_.length : Int))) rfl rfl (Eq.trans rfl (or_len (f := eStr) a_)) ?_
  refine awl_val hτ rfl rfl rfl ?_
  refine awl_val hτ (v := .d (.int .i64 (b_.length : Int))) rfl rfl (Eq.trans rfl (or_len (f := eStr) b_)) ?_
  refine awl_val hτ (v := .d (.bool (!(decide ((a_.length : Int) = (b_.length : Int)))))) rfl rfl (or_ine _ _) ?_
  refine awl_nil ?_
  refine aw_weak (weak_ofP [] (l := [(0, .d (.sl false (a_.map eStr))), (1, .d (.sl false (b_.map eStr))), (10, .d (.bool (!(decide ((a_.length : Int) = (b_.length : Int))))))]) (objs := []) rfl (by simp) rfl (by repeat' first | exact trivial | refine ⟨?_, ?_⟩) ⟨rfl, trivial, rfl, trivial, rfl, trivial, trivial⟩) ?_
  refine aw_cond rfl (fun hc7 => ?_) (fun hc7 => ?_)
  · have hc7 := not_t hc7
    have h := if_f h hc7
    refine aw_seq ?_
    refine aw_region ?_
    refine awl_val hτ rfl rfl rfl ?_
    refine awl_nil ?_
    refine aw_weak (weak_ofP [] (l := [(4, .d (.bool false))]) (objs := []) rfl (by simp) rfl (by repeat' first | exact trivial | refine ⟨?_, ?_⟩) ⟨rfl, trivial, trivial⟩) ?_
    refine aw_ret ?_
    have hr := Option.some.inj h
    subst hr
    exact ret_objs (.inr rfl) [] (objs' := []) (new := []) rfl (by simp) (by simp) rfl (by repeat' first | exact trivial | refine ⟨?_, ?_⟩) rfl rfl (by repeat' first | exact trivial | refine ⟨?_, ?_⟩) (fun _ => ⟨by simp [V.flat, V.flatA, V.flatC, D.flat], flat_nil⟩) ⟨rfl, rfl, rfl⟩
  · have hc7 := not_f hc7
    have h := if_t h hc7
    refine aw_skip ?_
    refine aw_seq ?_
    refine aw_seq ?_
    refine aw_region ?_
    refine awl_val hτ rfl rfl rfl ?_
    refine awl_nil ?_
    refine aw_block ?_
    refine aw_loop (ι := Nat × Int) (fun (m14, v10) => St.of [(0, .d (.sl false (a_.map eStr))), (1, .d (.sl false (b_.map eStr))), (5, .d (.int .i64 v10))] [] f22.ntmps 0) (fun (m14, v10) => m_laws_eqStringS_l1 n a_ b_ m14 v10 = some r) (fun x => x.1) (n, (0 : Int)) h (weak_ofP [] (l := [(0, .d (.sl false (a_.map eStr))), (1, .d (.sl false (b_.map eStr))), (5, .d (.int .i64 (0 : Int)))]) (objs := []) rfl (by simp) rfl (by repeat' first | exact trivial | refine ⟨?_, ?_⟩) ⟨rfl, trivial, rfl, trivial, rfl, trivial, trivial⟩) ?_
    rintro ⟨m14, v10⟩ h
    replace h : m_laws_eqStringS_l1 n a_ b_ m14 v10 = some r := h
    rcases m14 with _ | m14
    · rw [m_laws_eqStringS_l1] at h; cases h
    rw [m_laws_eqStringS_l1] at h
    refine aw_seq ?_
    refine aw_seq ?_
    refine aw_region ?_
    refine awl_val hτ rfl rfl rfl ?_
    refine awl_val hτ rfl rfl rfl ?_
    refine awl_val hτ (v := .d (.int .i64 (a_.length : Int))) rfl rfl (Eq.trans rfl (or_len (f := eStr) a_)) ?_
    refine awl_val hτ rfl rfl rfl ?_
    refine awl_nil ?_
    refine aw_cond rfl (fun hc16 => ?_) (fun hc16 => ?_)
    · have h := if_t h hc16
      refine aw_skip ?_
      refine aw_seq ?_
      refine aw_block ?_
      refine aw_seq ?_
      refine any_start ?_
      refine any_val hτ [] 0 rfl rfl rfl rfl rfl ?_
      refine any_val hτ [] 1 rfl rfl rfl rfl rfl ?_
      refine bnd_elim h fun x19 hx19 h => ?_
      refine any_elem hτ [] 2 rfl rfl rfl rfl rfl (getI_some hx19).1 (map_getI hx19) rfl ?_
      refine any_val hτ [] 3 rfl rfl rfl rfl rfl ?_
      refine any_val hτ [] 4 rfl rfl rfl rfl rfl ?_
      refine any_val hτ [] 5 rfl rfl rfl rfl rfl ?_
      refine bnd_elim h fun x20 hx20 h => ?_
      refine any_elem hτ [] 6 rfl rfl rfl rfl rfl (getI_some hx20).1 (map_getI hx20) rfl ?_
      refine any_val hτ [] 7 rfl rfl rfl rfl rfl ?_
      refine any_val hτ (v := .d (.bool (!(decide (x19 = x20))))) [] 8 rfl rfl rfl rfl (or_sne _ _) ?_
      refine any_done mixed (by kernel_rfl) ?_
      refine aw_weak (weak_ofP [] (l := [(0, .d (.sl false (a_.map eStr))), (1, .d (.sl false (b_.map eStr))), (5, .d (.int .i64 v10)), (25, .d (.bool (!(decide (x19 = x20)))))]) (objs := []) rfl (by simp) rfl (by repeat' first | exact trivial | refine ⟨?_, ?_⟩) ⟨rfl, trivial, rfl, trivial, rfl, trivial, rfl, trivial, trivial⟩) ?_
      refine aw_cond rfl (fun hc21 => ?_) (fun hc21 => ?_)
      · have hc21 := not_t hc21
        have h := if_f h hc21
        refine aw_seq ?_
        refine aw_region ?_
        refine awl_val hτ rfl rfl rfl ?_
        refine awl_nil ?_
        refine aw_weak (weak_ofP [] (l := [(4, .d (.bool false))]) (objs := []) rfl (by simp) rfl (by repeat' first | exact trivial | refine ⟨?_, ?_⟩) ⟨rfl, trivial, trivial⟩) ?_
        refine aw_ret ?_
        have hr := Option.some.inj h
        subst hr
        exact ret_objs (.inr rfl) [] (objs' := []) (new := []) rfl (by simp) (by simp) rfl (by repeat' first | exact trivial | refine ⟨?_, ?_⟩) rfl rfl (by repeat' first | exact trivial | refine ⟨?_, ?_⟩) (fun _ => ⟨by simp [V.flat, V.flatA, V.flatC, D.flat], flat_nil⟩) ⟨rfl, rfl, rfl⟩
      · have hc21 := not_f hc21
        have h := if_t h hc21
        refine aw_skip ?_
        refine aw_region ?_
        refine awl_val hτ rfl rfl rfl ?_
        refine awl_val hτ rfl rfl rfl ?_
        refine awl_val hτ rfl rfl rfl ?_
        refine awl_nil ?_
        exact ⟨(m14, (w64 (v10 + (1 : Int)))), h, Nat.lt_succ_self m14, (weak_ofP [] (l := [(0, .d (.sl false (a_.map eStr))), (1, .d (.sl false (b_.map eStr))), (5, .d (.int .i64 (w64 (v10 + (1 : Int)))))]) (objs := []) rfl (by simp) rfl (by repeat' first | exact trivial | refine ⟨?_, ?_⟩) ⟨rfl, trivial, rfl, trivial, rfl, trivial, trivial⟩)⟩
    · have h := if_f h hc16
      refine aw_exit ?_
      refine aw_seq ?_
      refine aw_region ?_
      refine awl_val hτ rfl rfl rfl ?_
      refine awl_nil ?_
      refine aw_weak (weak_ofP [] (l := [(4, .d (.bool true))]) (objs := []) rfl (by simp) rfl (by repeat' first | exact trivial | refine ⟨?_, ?_⟩) ⟨rfl, trivial, trivial⟩) ?_
      refine aw_ret ?_
      have hr := Option.some.inj h
      subst hr
      exact ret_objs (.inr rfl) [] (objs' := []) (new := []) rfl (by simp) (by simp) rfl (by repeat' first | exact trivial | refine ⟨?_, ?_⟩) rfl rfl (by repeat' first | exact trivial | refine ⟨?_, ?_⟩) (fun _ => ⟨by simp [V.flat, V.flatA, V.flatC, D.flat], flat_nil⟩) ⟨rfl, rfl, rfl⟩
theorem laws_eqStringS_ok (n : Nat) (a_ : List Str) (b_ : List Str) {r : Bool} (h : m_laws_eqStringS n a_ b_ = some r) : ACall prog false 22 [.d (.sl false (a_.map eStr)), .d (.sl false (b_.map eStr))] [] (fun v o new => v = .d (.bool r) ∧ o = [] ∧ new = []) := laws_eqStringS_ok_fr0 false n a_ b_ h
theorem laws_eqStringS_ok_fr (n : Nat) (a_ : List Str) (b_ : List Str) {r : Bool} (h : m_laws_eqStringS n a_ b_ = some r) : ACall prog true 22 [.d (.sl false (a_.map eStr)), .d (.sl false (b_.map eStr))] [] (fun v o new => v = .d (.bool r) ∧ o = [] ∧ new = []) := laws_eqStringS_ok_fr0 true n a_ b_ h

def m_laws_markText_j1 (n : Nat) (v15 : Str) : Option Str :=
  grd (([109] : Str).length + v15.length ≤ 9223372036854775807) <|
  some (([109] : Str) ++ v15)
def m_laws_markText_l2 (n : Nat) : Nat → Int → Str → Option Str
  | 0, _, _ => none
  | m24 + 1, v19, v20 =>
    if v19 > (0 : Int) then
      grd ((chars [(IntKind.wrap .u8 ((w64 ((48 : Int) + (v19.tmod (10 : Int))))))]).length + v20.length ≤ 9223372036854775807) <|
      (m_laws_markText_l2 n m24) (w64 (v19.tdiv (10 : Int))) ((chars [(IntKind.wrap .u8 ((w64 ((48 : Int) + (v19.tmod (10 : Int))))))]) ++ v20)
    else
      m_laws_markText_j1 n v20
def m_laws_markText (n : Nat) (k_ : Int) : Option Str :=
  if k_ ≤ (0 : Int) then
    some ([109, 48] : Str)
  else
    m_laws_markText_l2 n n k_ ([] : Str)
theorem laws_markText_ok_fr0 (fr : Bool) (n : Nat) (k_ : Int) {r : Str} (h : m_laws_markText n k_ = some r) : ACall prog fr 60 [.d (.int .i64 k_)] [] (fun v o new => v = .d (.str (bstr r)) ∧ o = [] ∧ new = []) := by
  refine acall_of_aw hτ func60 rfl (by simp) (by simp) ?_
  unfold m_laws_markText at h
  refine aw_seq ?_
  refine aw_region ?_
  refine awl_val hτ rfl rfl rfl ?_
  refine awl_nil ?_
  refine aw_seq ?_
  refine aw_seq ?_
  refine aw_region ?_
  refine awl_val hτ rfl rfl rfl ?_
  refine awl_val hτ rfl rfl rfl ?_
  refine awl_nil ?_
  refine aw_cond rfl (fun hc8 => ?_) (fun hc8 => ?_)
  · have h := if_t h hc8
    refine aw_seq ?_
    refine aw_region ?_
    refine awl_val hτ rfl rfl rfl ?_
    refine awl_nil ?_
    refine aw_weak (weak_ofP [] (l := [(2, .d (.str (bstr ([109, 48] : Str))))]) (objs := []) rfl (by simp) rfl (by repeat' first | exact trivial | refine ⟨?_, ?_⟩) ⟨rfl, trivial, trivial⟩) ?_
    refine aw_ret ?_
    have hr := Option.some.inj h
    subst hr
    exact ret_objs (.inr rfl) [] (objs' := []) (new := []) rfl (by simp) (by simp) rfl (by repeat' first | exact trivial | refine ⟨?_, ?_⟩) rfl rfl (by repeat' first | exact trivial | refine ⟨?_, ?_⟩) (fun _ => ⟨by simp [V.flat, V.flatA, V.flatC, D.flat], flat_nil⟩) ⟨rfl, rfl, rfl⟩
  · have h := if_f h hc8
    refine aw_skip ?_
    refine aw_seq ?_
    refine aw_region ?_
    refine awl_val hτ rfl rfl rfl ?_
    refine awl_nil ?_
    refine aw_hk1 (ι := Str) (fun v15 => St.of [(3, .d (.str (bstr v15)))] [] f60.ntmps 0) (fun v15 => m_laws_markText_j1 n v15 = some r) ?_ (fun hk17 => ?_)
    · rintro v15 h
      replace h : m_laws_markText_j1 n v15 = some r := h
      unfold m_laws_markText_j1 at h
      refine aw_seq ?_
      refine aw_region ?_
      refine awl_val hτ rfl rfl rfl ?_
      refine grd_elim h fun hg16 h => ?_
      refine awl_need hτ (v := .d (.str (bstr (([109] : Str) ++ v15)))) rfl rfl (Eq.trans rfl (or_cat _ _)) hg16 ?_
      refine awl_val hτ rfl rfl rfl ?_
      refine awl_nil ?_
      refine aw_weak (weak_ofP [] (l := [(2, .d (.str (bstr (([109] : Str) ++ v15))))]) (objs := []) rfl (by simp) rfl (by repeat' first | exact trivial | refine ⟨?_, ?_⟩) ⟨rfl, trivial, trivial⟩) ?_
      refine aw_ret ?_
      have hr := Option.some.inj h
      subst hr
      exact ret_objs (.inr rfl) [] (objs' := []) (new := []) rfl (by simp) (by simp) rfl (by repeat' first | exact trivial | refine ⟨?_, ?_⟩) rfl rfl (by repeat' first | exact trivial | refine ⟨?_, ?_⟩) (fun _ => ⟨by simp [V.flat, V.flatA, V.flatC, D.flat], flat_nil⟩) ⟨rfl, rfl, rfl⟩
    · refine aw_seq ?_
      refine aw_block ?_
      refine aw_loop (ι := Nat × Int × Str) (fun (m24, v19, v20) => St.of [(0, .d (.int .i64 v19)), (3, .d (.str (bstr v20)))] [] f60.ntmps 0) (fun (m24, v19, v20) => m_laws_markText_l2 n m24 v19 v20 = some r) (fun x => x.1) (n, k_, ([] : Str)) h (weak_ofP [] (l := [(0, .d (.int .i64 k_)), (3, .d (.str (bstr ([] : Str))))]) (objs := []) rfl (by simp) rfl (by repeat' first | exact trivial | refine ⟨?_, ?_⟩) ⟨rfl, trivial, rfl, trivial, trivial⟩) ?_
      rintro ⟨m24, v19, v20⟩ h
      replace h : m_laws_markText_l2 n m24 v19 v20 = some r := h
      rcases m24 with _ | m24
      · rw [m_laws_markText_l2] at h; cases h
      rw [m_laws_markText_l2] at h
      refine aw_seq ?_
      refine aw_seq ?_
      refine aw_region ?_
      refine awl_val hτ rfl rfl rfl ?_
      refine awl_val hτ rfl rfl rfl ?_
      refine awl_nil ?_
      refine aw_cond rfl (fun hc26 => ?_) (fun hc26 => ?_)
      · have h := if_t h hc26
        refine aw_skip ?_
        refine aw_block ?_
        refine aw_seq ?_
        refine aw_region ?_
        refine awl_val hτ rfl rfl rfl ?_
        refine awl_need hτ rfl rfl rfl (by decide) ?_
        refine awl_val hτ rfl rfl rfl ?_
        refine awl_val hτ rfl rfl rfl ?_
        refine awl_valH hτ rfl rfl rfl ?_
        refine awl_x rfl rfl (x_b2s hτ (f := eIntu8) (l := [(IntKind.wrap .u8 ((w64 ((48 : Int) + (v19.tmod (10 : Int))))))]) rfl rfl rfl rfl rfl rfl rfl (fun _ => rfl) (slice_row [(IntKind.wrap .u8 ((w64 ((48 : Int) + (v19.tmod (10 : Int))))))] rfl rfl) ⟨len_map _, by omega⟩) ?_
        refine awl_val hτ rfl rfl rfl ?_
        refine grd_elim h fun hg27 h => ?_
        refine awl_need hτ (v := .d (.str (bstr ((chars [(IntKind.wrap .u8 ((w64 ((48 : Int) + (v19.tmod (10 : Int))))))]) ++ v20)))) rfl rfl (Eq.trans rfl (or_cat _ _)) hg27 ?_
        refine awl_val hτ rfl rfl rfl ?_
        refine awl_nil ?_
        refine aw_weak (weak_ofP [] (l := [(0, .d (.int .i64 v19)), (3, .d (.str (bstr ((chars [(IntKind.wrap .u8 ((w64 ((48 : Int) + (v19.tmod (10 : Int))))))]) ++ v20))))]) (objs := []) rfl (by simp) rfl (by repeat' first | exact trivial | refine ⟨?_, ?_⟩) ⟨rfl, trivial, rfl, trivial, trivial⟩) ?_
        refine aw_region ?_
        refine awl_val hτ rfl rfl rfl ?_
        refine awl_need hτ rfl rfl rfl (by decide) ?_
        refine awl_val hτ rfl rfl rfl ?_
        refine awl_nil ?_
        exact ⟨(m24, (w64 (v19.tdiv (10 : Int))), ((chars [(IntKind.wrap .u8 ((w64 ((48 : Int) + (v19.tmod (10 : Int))))))]) ++ v20)), h, Nat.lt_succ_self m24, (weak_ofP [] (l := [(0, .d (.int .i64 (w64 (v19.tdiv (10 : Int))))), (3, .d (.str (bstr ((chars [(IntKind.wrap .u8 ((w64 ((48 : Int) + (v19.tmod (10 : Int))))))]) ++ v20))))]) (objs := []) rfl (by simp) rfl (by repeat' first | exact trivial | refine ⟨?_, ?_⟩) ⟨rfl, trivial, rfl, trivial, trivial⟩)⟩
      · have h := if_f h hc26
        refine aw_exit ?_
        refine aw_weak (weak_ofP [] (l := [(3, .d (.str (bstr v20)))]) (objs := []) rfl (by simp) rfl (by repeat' first | exact trivial | refine ⟨?_, ?_⟩) ⟨rfl, trivial, trivial⟩) ?_
        exact hk17 v20 h
theorem laws_markText_ok (n : Nat) (k_ : Int) {r : Str} (h : m_laws_markText n k_ = some r) : ACall prog false 60 [.d (.int .i64 k_)] [] (fun v o new => v = .d (.str (bstr r)) ∧ o = [] ∧ new = []) := laws_markText_ok_fr0 false n k_ h
theorem laws_markText_ok_fr (n : Nat) (k_ : Int) {r : Str} (h : m_laws_markText n k_ = some r) : ACall prog true 60 [.d (.int .i64 k_)] [] (fun v o new => v = .d (.str (bstr r)) ∧ o = [] ∧ new = []) := laws_markText_ok_fr0 true n k_ h

def m_laws_markStringS_l1 (n : Nat) : Nat → List Str → Int → Int → Option (Int × List Str)
  | 0, _, _, _ => none
  | m21 + 1, v13, v14, v15 =>
    if v15 < (v13.length : Int) then
      (m_laws_markText n v14).bind fun x24 =>
      (getI v13 v15).bind fun x25 =>
      (m_laws_markStringS_l1 n m21) (v13.set v15.toNat x24) (w64 (v14 + (1 : Int))) (w64 (v15 + (1 : Int)))
    else
      some (v14, v13)
def m_laws_markStringS (n : Nat) (a_ : List Str) (k_ : Int) : Option (Int × List Str) :=
  m_laws_markStringS_l1 n n a_ k_ (0 : Int)
theorem laws_markStringS_ok_fr0 (fr : Bool) (n : Nat) (a_ : List Str) (k_ : Int) {r : Int × List Str} (h : m_laws_markStringS n a_ k_ = some r) : ACall prog fr 27 [.row 0 a_.length 0 a_.length, .d (.int .i64 k_)] [.row 1 (a_.map eStr)] (fun v o new => v = .d (.int .i64 r.1) ∧ o = [.row 1 (r.2.map eStr)] ∧ new = []) := by
  refine acall_of_aw hτ func27 rfl (by simp) (by simp) ?_
  unfold m_laws_markStringS at h
  refine aw_seq ?_
  refine aw_region ?_
  refine awl_val hτ rfl rfl rfl ?_
  refine awl_nil ?_
  refine aw_seq ?_
  refine aw_seq ?_
  refine aw_region ?_
  refine awl_val hτ rfl rfl rfl ?_
  refine awl_nil ?_
  refine aw_block ?_
  refine aw_loop (ι := Nat × List Str × Int × Int) (fun (m21, v13, v14, v15) => St.of [(0, .row 0 v13.length 0 v13.length), (1, .d (.int .i64 v14)), (5, .d (.int .i64 v15))] [.row 1 (v13.map eStr)] f27.ntmps 1) (fun (m21, v13, v14, v15) => m_laws_markStringS_l1 n m21 v13 v14 v15 = some r) (fun x => x.1) (n, a_, k_, (0 : Int)) h (weak_ofP [0] (l := [(0, .row 0 a_.length 0 a_.length), (1, .d (.int .i64 k_)), (5, .d (.int .i64 (0 : Int)))]) (objs := [.row 1 (a_.map eStr)]) rfl (by simp) rfl (by repeat' first | exact trivial | refine ⟨?_, ?_⟩) ⟨rfl, trivial, rfl, trivial, rfl, trivial, trivial⟩) ?_
  rintro ⟨m21, v13, v14, v15⟩ h
  replace h : m_laws_markStringS_l1 n m21 v13 v14 v15 = some r := h
  rcases m21 with _ | m21
  · rw [m_laws_markStringS_l1] at h; cases h
  rw [m_laws_markStringS_l1] at h
  refine aw_seq ?_
  refine aw_seq ?_
  refine aw_region ?_
  refine awl_val hτ rfl rfl rfl ?_
  refine awl_val hτ rfl rfl rfl ?_
  refine awl_need hτ rfl rfl rfl (len_map _) ?_
  refine awl_val hτ rfl rfl rfl ?_
  refine awl_nil ?_
  refine aw_cond rfl (fun hc23 => ?_) (fun hc23 => ?_)
  · have h := if_t h hc23
    refine aw_skip ?_
    refine aw_seq ?_
    refine aw_block ?_
    refine aw_seq ?_
    refine aw_region ?_
    refine awl_val hτ rfl rfl rfl ?_
    refine awl_val hτ rfl rfl rfl ?_
    refine awl_val hτ rfl rfl rfl ?_
    refine bnd_elim h fun x24 hx24 h => ?_
    refine awl_callP hτ false [] rfl rfl rfl (enterOk func60 rfl rfl) rfl rfl (by simp) ⟨trivial, trivial⟩ (by repeat' first | exact trivial | refine ⟨?_, ?_⟩) (laws_markText_ok n v14 hx24) ?_
    rintro r0 o0 n0 ⟨rfl, rfl, rfl⟩ -
    refine bnd_elim h fun x25 hx25 h => ?_
    refine awl_need hτ rfl rfl rfl (row_need hx25) ?_
    refine awl_elemH hτ rfl rfl rfl (len_map _) (row_get hx25) (set_val (f := eStr) (l := v13) (i := v15) (y := x24) rfl) ?_
    refine awl_nil ?_
    refine aw_weak (weak_ofP [0] (l := [(0, .row 0 ((v13.set v15.toNat x24).length) 0 ((v13.set v15.toNat x24).length)), (1, .d (.int .i64 v14)), (5, .d (.int .i64 v15))]) (objs := [.row 1 ((v13.set v15.toNat x24).map eStr)]) rfl (by simp) rfl (by repeat' first | exact trivial | refine ⟨?_, ?_⟩) ⟨(exV_rowL rfl (by simp)), trivial, rfl, trivial, rfl, trivial, trivial⟩) ?_
    refine aw_region ?_
    refine awl_val hτ rfl rfl rfl ?_
    refine awl_val hτ rfl rfl rfl ?_
    refine awl_val hτ rfl rfl rfl ?_
    refine awl_nil ?_
    refine aw_region ?_
    refine awl_val hτ rfl rfl rfl ?_
    refine awl_val hτ rfl rfl rfl ?_
    refine awl_val hτ rfl rfl rfl ?_
    refine awl_nil ?_
    exact ⟨(m21, (v13.set v15.toNat x24), (w64 (v14 + (1 : Int))), (w64 (v15 + (1 : Int)))), h, Nat.lt_succ_self m21, (weak_ofP [0] (l := [(0, .row 0 ((v13.set v15.toNat x24).length) 0 ((v13.set v15.toNat x24).length)), (1, .d (.int .i64 (w64 (v14 + (1 : Int))))), (5, .d (.int .i64 (w64 (v15 + (1 : Int)))))]) (objs := [.row 1 ((v13.set v15.toNat x24).map eStr)]) rfl (by simp) rfl (by repeat' first | exact trivial | refine ⟨?_, ?_⟩) ⟨rfl, trivial, rfl, trivial, rfl, trivial, trivial⟩)⟩
  · have h := if_f h hc23
    refine aw_exit ?_
    refine aw_seq ?_
    refine aw_region ?_
    refine awl_val hτ rfl rfl rfl ?_
    refine awl_val hτ rfl rfl rfl ?_
    refine awl_nil ?_
    refine aw_weak (weak_ofP [0] (l := [(4, .d (.int .i64 v14))]) (objs := [.row 1 (v13.map eStr)]) rfl (by simp) rfl (by repeat' first | exact trivial | refine ⟨?_, ?_⟩) ⟨rfl, trivial, trivial⟩) ?_
    refine aw_ret ?_
    have hr := Option.some.inj h
    subst hr
    exact ret_objs (.inr rfl) [] (objs' := [.row 1 (v13.map eStr)]) (new := []) rfl (by simp) (by simp) rfl (by repeat' first | exact trivial | refine ⟨?_, ?_⟩) rfl rfl (by repeat' first | exact trivial | refine ⟨?_, ?_⟩) (fun _ => ⟨by simp [V.flat, V.flatA, V.flatC, D.flat], (flat_cons (flat_row eStr_flat _) flat_nil)⟩) ⟨rfl, rfl, rfl⟩
theorem laws_markStringS_ok (n : Nat) (a_ : List Str) (k_ : Int) {r : Int × List Str} (h : m_laws_markStringS n a_ k_ = some r) : ACall prog false 27 [.row 0 a_.length 0 a_.length, .d (.int .i64 k_)] [.row 1 (a_.map eStr)] (fun v o new => v = .d (.int .i64 r.1) ∧ o = [.row 1 (r.2.map eStr)] ∧ new = []) := laws_markStringS_ok_fr0 false n a_ k_ h
theorem laws_markStringS_ok_fr (n : Nat) (a_ : List Str) (k_ : Int) {r : Int × List Str} (h : m_laws_markStringS n a_ k_ = some r) : ACall prog true 27 [.row 0 a_.length 0 a_.length, .d (.int .i64 k_)] [.row 1 (a_.map eStr)] (fun v o new => v = .d (.int .i64 r.1) ∧ o = [.row 1 (r.2.map eStr)] ∧ new = []) := laws_markStringS_ok_fr0 true n a_ k_ h

def m_laws_heldStringS_l1 (n : Nat) (a_ : List Str) : Nat → Int → Int → Option Int
  | 0, _, _ => none
  | m17 + 1, v11, v12 =>
    if v12 < (a_.length : Int) then
      (getI a_ v12).bind fun x24 =>
      (m_laws_markText n v11).bind fun x25 =>
      if x24 = x25 then
        (m_laws_heldStringS_l1 n a_ m17) (w64 (v11 + (1 : Int))) (w64 (v12 + (1 : Int)))
      else
        some (-1 : Int)
    else
      some v11
def m_laws_heldStringS (n : Nat) (a_ : List Str) (k_ : Int) : Option Int :=
  m_laws_heldStringS_l1 n a_ n k_ (0 : Int)
theorem laws_heldStringS_ok_fr0 (fr : Bool) (n : Nat) (a_ : List Str) (k_ : Int) {r : Int} (h : m_laws_heldStringS n a_ k_ = some r) : ACall prog fr 28 [.d (.sl false (a_.map eStr)), .d (.int .i64 k_)] [] (fun v o new => v = .d (.int .i64 r) ∧ o = [] ∧ new = []) := by
  refine acall_of_aw hτ func28 rfl (by simp) (by simp) ?_
  unfold m_laws_heldStringS at h
  refine aw_seq ?_
  refine aw_region ?_
  refine awl_val hτ rfl rfl rfl ?_
  refine awl_nil ?_
  refine aw_seq ?_
  refine aw_seq ?_
  refine aw_region ?_
  refine awl_val hτ rfl rfl rfl ?_
  refine awl_nil ?_
  refine aw_block ?_
  refine aw_loop (ι := Nat × Int × Int) (fun (m17, v11, v12) => St.of [(0, .d (.sl false (a_.map eStr))), (1, .d (.int .i64 v11)), (5, .d (.int .i64 v12))] [] f28.ntmps 0) (fun (m17, v11, v12) => m_laws_heldStringS_l1 n a_ m17 v11 v12 = some r) (fun x => x.1) (n, k_, (0 : Int)) h (weak_ofP [] (l := [(0, .d (.sl false (a_.map eStr))), (1, .d (.int .i64 k_)), (5, .d (.int .i64 (0 : Int)))]) (objs := []) rfl (by simp) rfl (by repeat' first | exact trivial | refine ⟨?_, ?_⟩) ⟨rfl, trivial, rfl, trivial, rfl, trivial, trivial⟩) ?_
  rintro ⟨m17, v11, v12⟩ h
  replace h : m_laws_heldStringS_l1 n a_ m17 v11 v12 = some r := h
  rcases m17 with _ | m17
  · rw [m_laws_heldStringS_l1] at h; cases h
  rw [m_laws_heldStringS_l1] at h
  refine aw_seq ?_
  refine aw_seq ?_
  refine aw_region ?_
  refine awl_val hτ rfl rfl rfl ?_
  refine awl_val hτ rfl rfl rfl ?_
  refine awl_val hτ (v := .d (.int .i64 (a_.length : Int))) rfl rfl (Eq.trans rfl (or_len (f := eStr) a_)) ?_
  refine awl_val hτ rfl rfl rfl ?_
  refine awl_nil ?_
  refine aw_cond rfl (fun hc19 => ?_) (fun hc19 => ?_)
  · have h := if_t h hc19
    refine aw_skip ?_
    refine aw_seq ?_
    refine aw_block ?_
    refine aw_seq ?_
    refine aw_seq ?_
    refine any_start ?_
    refine any_val hτ [] 0 rfl rfl rfl rfl rfl ?_
    refine any_val hτ [] 1 rfl rfl rfl rfl rfl ?_
    refine bnd_elim h fun x24 hx24 h => ?_
    refine any_elem hτ [] 2 rfl rfl rfl rfl rfl (getI_some hx24).1 (map_getI hx24) rfl ?_
    refine any_val hτ [] 3 rfl rfl rfl rfl rfl ?_
    refine any_val hτ [] 4 rfl rfl rfl rfl rfl ?_
    refine bnd_elim h fun x25 hx25 h => ?_
    refine any_callP hτ false [] [] 5 rfl rfl rfl rfl (enterOk func60 rfl rfl) rfl rfl (by simp) ⟨trivial, trivial⟩ (by repeat' first | exact trivial | refine ⟨?_, ?_⟩) (laws_markText_ok n v11 hx25) trivial ?_
    refine any_val hτ (v := .d (.bool (!(decide (x24 = x25))))) [] 6 rfl rfl rfl rfl (or_sne _ _) ?_
    refine any_done mixed (by kernel_rfl) ?_
    refine aw_weak (weak_ofP [] (l := [(0, .d (.sl false (a_.map eStr))), (1, .d (.int .i64 v11)), (5, .d (.int .i64 v12)), (18, .d (.bool (!(decide (x24 = x25)))))]) (objs := []) rfl (by simp) rfl (by repeat' first | exact trivial | refine ⟨?_, ?_⟩) ⟨rfl, trivial, rfl, trivial, rfl, trivial, rfl, trivial, trivial⟩) ?_
    refine aw_cond rfl (fun hc26 => ?_) (fun hc26 => ?_)
    · have hc26 := not_t hc26
      have h := if_f h hc26
      refine aw_seq ?_
      refine aw_region ?_
      refine awl_val hτ rfl rfl rfl ?_
      refine awl_nil ?_
      refine aw_weak (weak_ofP [] (l := [(4, .d (.int .i64 (-1 : Int)))]) (objs := []) rfl (by simp) rfl (by repeat' first | exact trivial | refine ⟨?_, ?_⟩) ⟨rfl, trivial, trivial⟩) ?_
      refine aw_ret ?_
      have hr := Option.some.inj h
      subst hr
      exact ret_objs (.inr rfl) [] (objs' := []) (new := []) rfl (by simp) (by simp) rfl (by repeat' first | exact trivial | refine ⟨?_, ?_⟩) rfl rfl (by repeat' first | exact trivial | refine ⟨?_, ?_⟩) (fun _ => ⟨by simp [V.flat, V.flatA, V.flatC, D.flat], flat_nil⟩) ⟨rfl, rfl, rfl⟩
    · have hc26 := not_f hc26
      have h := if_t h hc26
      refine aw_skip ?_
      refine aw_region ?_
      refine awl_val hτ rfl rfl rfl ?_
      refine awl_val hτ rfl rfl rfl ?_
      refine awl_val hτ rfl rfl rfl ?_
      refine awl_nil ?_
      refine aw_region ?_
      refine awl_val hτ rfl rfl rfl ?_
      refine awl_val hτ rfl rfl rfl ?_
      refine awl_val hτ rfl rfl rfl ?_
      refine awl_nil ?_
      exact ⟨(m17, (w64 (v11 + (1 : Int))), (w64 (v12 + (1 : Int)))), h, Nat.lt_succ_self m17, (weak_ofP [] (l := [(0, .d (.sl false (a_.map eStr))), (1, .d (.int .i64 (w64 (v11 + (1 : Int))))), (5, .d (.int .i64 (w64 (v12 + (1 : Int)))))]) (objs := []) rfl (by simp) rfl (by repeat' first | exact trivial | refine ⟨?_, ?_⟩) ⟨rfl, trivial, rfl, trivial, rfl, trivial, trivial⟩)⟩
  · have h := if_f h hc19
    refine aw_exit ?_
    refine aw_seq ?_
    refine aw_region ?_
    refine awl_val hτ rfl rfl rfl ?_
    refine awl_val hτ rfl rfl rfl ?_
    refine awl_nil ?_
    refine aw_weak (weak_ofP [] (l := [(4, .d (.int .i64 v11))]) (objs := []) rfl (by simp) rfl (by repeat' first | exact trivial | refine ⟨?_, ?_⟩) ⟨rfl, trivial, trivial⟩) ?_
    refine aw_ret ?_
    have hr := Option.some.inj h
    subst hr
    exact ret_objs (.inr rfl) [] (objs' := []) (new := []) rfl (by simp) (by simp) rfl (by repeat' first | exact trivial | refine ⟨?_, ?_⟩) rfl rfl (by repeat' first | exact trivial | refine ⟨?_, ?_⟩) (fun _ => ⟨by simp [V.flat, V.flatA, V.flatC, D.flat], flat_nil⟩) ⟨rfl, rfl, rfl⟩
theorem laws_heldStringS_ok (n : Nat) (a_ : List Str) (k_ : Int) {r : Int} (h : m_laws_heldStringS n a_ k_ = some r) : ACall prog false 28 [.d (.sl false (a_.map eStr)), .d (.int .i64 k_)] [] (fun v o new => v = .d (.int .i64 r) ∧ o = [] ∧ new = []) := laws_heldStringS_ok_fr0 false n a_ k_ h
theorem laws_heldStringS_ok_fr (n : Nat) (a_ : List Str) (k_ : Int) {r : Int} (h : m_laws_heldStringS n a_ k_ = some r) : ACall prog true 28 [.d (.sl false (a_.map eStr)), .d (.int .i64 k_)] [] (fun v o new => v = .d (.int .i64 r) ∧ o = [] ∧ new = []) := laws_heldStringS_ok_fr0 true n a_ k_ h

def m_laws_FnExactRecoverJournal_j2 (n : Nat) (x23 : Int × List Str) : Option Bool :=
  (m_laws_heldStringS n x23.2 (1 : Int)).bind fun x33 =>
  if x33 < (0 : Int) then
    some false
  else
    if x33 = x23.1 then
      some true
    else
      some false
def m_laws_FnExactRecoverJournal_j3 (n : Nat) (x23 : Int × List Str) (v41 : Bool) : Option Bool :=
  if v41 = true then
    some false
  else
    m_laws_FnExactRecoverJournal_j2 n x23
def m_laws_FnExactRecoverJournal_j1 (n : Nat) (aT_ : Str) (x17 : List Str × Int × Bool) (x18 : List Str × Int × Bool) : Option Bool :=
  (m_laws_markStringS n x18.1 (1 : Int)).bind fun x23 =>
  grd (x23.2.length = x18.1.length) <|
  (m_laws_heldStringS n x23.2 (1 : Int)).bind fun x25 =>
  if x25 < (0 : Int) then
    some false
  else
    if x25 = x23.1 then
      (m_impl_RecoverJournal n aT_).bind fun x28 =>
      (m_laws_eqStringS n x28.1 x17.1).bind fun x44 =>
      if x44 = true then
        if x28.2.1 = x17.2.1 then
          m_laws_FnExactRecoverJournal_j3 n x23 (!(x28.2.2 == x17.2.2))
        else
          m_laws_FnExactRecoverJournal_j3 n x23 true
      else
        m_laws_FnExactRecoverJournal_j3 n x23 true
    else
      some false
def m_laws_FnExactRecoverJournal_j4 (n : Nat) (aT_ : Str) (x17 : List Str × Int × Bool) (x18 : List Str × Int × Bool) (v52 : Bool) : Option Bool :=
  if v52 = true then
    some false
  else
    m_laws_FnExactRecoverJournal_j1 n aT_ x17 x18
def m_laws_FnExactRecoverJournal (n : Nat) (aT_ : Str) : Option Bool :=
  if (aT_.length : Int) > (1048576 : Int) then
    some true
  else
    (m_spec_RecoverJournal n aT_).bind fun x17 =>
    (m_impl_RecoverJournal n aT_).bind fun x18 =>
    (m_laws_eqStringS n x18.1 x17.1).bind fun x55 =>
    if x55 = true then
      if x18.2.1 = x17.2.1 then
        m_laws_FnExactRecoverJournal_j4 n aT_ x17 x18 (!(x18.2.2 == x17.2.2))
      else
        m_laws_FnExactRecoverJournal_j4 n aT_ x17 x18 true
    else
      m_laws_FnExactRecoverJournal_j4 n aT_ x17 x18 true
theorem laws_FnExactRecoverJournal_ok_fr0 (fr : Bool) (n : Nat) (aT_ : Str) {r : Bool} (h : m_laws_FnExactRecoverJournal n aT_ = some r) : ACall prog fr 6 [.d (.str (bstr aT_))] [] (fun v o new => v = .d (.bool r) ∧ o = [] ∧ new = []) := by
  refine acall_of_aw hτ func6 rfl (by simp) (by simp) ?_
  unfold m_laws_FnExactRecoverJournal at h
  refine aw_seq ?_
  refine aw_region ?_
  refine awl_val hτ rfl rfl rfl ?_
  refine awl_nil ?_
  refine aw_seq ?_
  refine aw_seq ?_
  refine aw_region ?_
  refine awl_val hτ rfl rfl rfl ?_
  refine awl_val hτ rfl rfl rfl ?_
  refine awl_val hτ rfl rfl rfl ?_
  refine awl_nil ?_
  refine aw_cond rfl (fun hc16 => ?_) (fun hc16 => ?_)
  · have h := if_t h hc16
    refine aw_seq ?_
    refine aw_region ?_
    refine awl_val hτ rfl rfl rfl ?_
    refine awl_nil ?_
    refine aw_weak (weak_ofP [] (l := [(2, .d (.bool true))]) (objs := []) rfl (by simp) rfl (by repeat' first | exact trivial | refine ⟨?_, ?_⟩) ⟨rfl, trivial, trivial⟩) ?_
    refine aw_ret ?_
    have hr := Option.some.inj h
    subst hr
    exact ret_objs (.inr rfl) [] (objs' := []) (new := []) rfl (by simp) (by simp) rfl (by repeat' first | exact trivial | refine ⟨?_, ?_⟩) rfl rfl (by repeat' first | exact trivial | refine ⟨?_, ?_⟩) (fun _ => ⟨by simp [V.flat, V.flatA, V.flatC, D.flat], flat_nil⟩) ⟨rfl, rfl, rfl⟩
  · have h := if_f h hc16
    refine aw_skip ?_
    refine aw_seq ?_
    refine aw_region ?_
    refine awl_val hτ rfl rfl rfl ?_
    refine bnd_elim h fun x17 hx17 h => ?_
    refine awl_callP hτ false [] rfl rfl rfl (enterOk func25 rfl rfl) rfl rfl (by simp) ⟨trivial, trivial⟩ (by repeat' first | exact trivial | refine ⟨?_, ?_⟩) (spec_RecoverJournal_ok n aT_ hx17) ?_
    rintro r0 o0 n0 ⟨rfl, rfl, rfl⟩ -
    refine awl_val hτ rfl rfl rfl ?_
    refine awl_val hτ rfl rfl rfl ?_
    refine awl_val hτ rfl rfl rfl ?_
    refine awl_val hτ rfl rfl rfl ?_
    refine awl_val hτ rfl rfl rfl ?_
    refine awl_val hτ rfl rfl rfl ?_
    refine awl_weak (weak_ofP [0] (l := [(0, .d (.str (bstr aT_))), (3, .row 0 x17.1.length 0 x17.1.length), (4, .d (.int .i64 x17.2.1)), (22, .d (.bool x17.2.2))]) (objs := [.row 1 (x17.1.map eStr)]) rfl (by simp) rfl (by repeat' first | exact trivial | refine ⟨?_, ?_⟩) ⟨rfl, trivial, rfl, trivial, rfl, trivial, rfl, trivial, trivial⟩) ?_
    refine awl_val hτ rfl rfl rfl ?_
    refine awl_nil ?_
    refine aw_seq ?_
    refine aw_region ?_
    refine awl_val hτ rfl rfl rfl ?_
    refine bnd_elim h fun x18 hx18 h => ?_
    refine awl_callP hτ false [] rfl rfl rfl (enterOk func26 rfl rfl) rfl rfl (by simp) ⟨trivial, trivial⟩ (by repeat' first | exact trivial | refine ⟨?_, ?_⟩) (impl_RecoverJournal_ok n aT_ hx18) ?_
    rintro r0 o0 n0 ⟨rfl, rfl, rfl⟩ -
    refine awl_val hτ rfl rfl rfl ?_
    refine awl_val hτ rfl rfl rfl ?_
    refine awl_val hτ rfl rfl rfl ?_
    refine awl_val hτ rfl rfl rfl ?_
    refine awl_val hτ rfl rfl rfl ?_
    refine awl_val hτ rfl rfl rfl ?_
    refine awl_val hτ rfl rfl rfl ?_
    refine awl_nil ?_
    refine aw_hk1 (ι := Unit) (fun _ => St.of [(0, .d (.str (bstr aT_))), (3, .row 0 x17.1.length 0 x17.1.length), (4, .d (.int .i64 x17.2.1)), (5, .d (.bool x17.2.2)), (6, .row 1 x18.1.length 0 x18.1.length)] [.row 1 (x17.1.map eStr), .row 1 (x18.1.map eStr)] f6.ntmps 0) (fun _ => m_laws_FnExactRecoverJournal_j1 n aT_ x17 x18 = some r) ?_ (fun hk47 => ?_)
    · rintro ⟨⟩ h
      replace h : m_laws_FnExactRecoverJournal_j1 n aT_ x17 x18 = some r := h
      unfold m_laws_FnExactRecoverJournal_j1 at h
      refine aw_seq ?_
      refine aw_region ?_
      refine awl_val hτ rfl rfl rfl ?_
      refine awl_nil ?_
      refine aw_seq ?_
      refine aw_region ?_
      refine awl_val hτ rfl rfl rfl ?_
      refine awl_val hτ rfl rfl rfl ?_
      refine bnd_elim h fun x23 hx23 h => ?_
      refine awl_callP hτ false [1] rfl rfl rfl (enterOk func27 rfl rfl) rfl rfl (by simp) ⟨trivial, trivial, trivial⟩ (by repeat' first | exact trivial | refine ⟨?_, ?_⟩) (laws_markStringS_ok n x18.1 (1 : Int) hx23) ?_
      rintro r0 o0 n0 ⟨rfl, rfl, rfl⟩ -
      refine grd_elim h fun hg24 h => ?_
      refine awl_val hτ rfl rfl rfl ?_
      refine awl_nil ?_
      refine aw_seq ?_
      refine aw_region ?_
      refine awl_val hτ rfl rfl rfl ?_
      refine awl_nil ?_
      refine aw_seq ?_
      refine aw_weak (weak_ofP [0, 1] (l := [(0, .d (.str (bstr aT_))), (3, .row 0 x17.1.length 0 x17.1.length), (4, .d (.int .i64 x17.2.1)), (5, .d (.bool x17.2.2)), (6, .row 1 x23.2.length 0 x23.2.length), (9, .d (.int .i64 x23.1)), (10, .d (.int .i64 (1 : Int)))]) (objs := [.row 1 (x17.1.map eStr), .row 1 (x23.2.map eStr)]) rfl (by simp) rfl (by repeat' first | exact trivial | refine ⟨?_, ?_⟩) ⟨rfl, trivial, rfl, trivial, rfl, trivial, rfl, trivial, (exV_rowL rfl (by simp [hg24])), trivial, rfl, trivial, rfl, trivial, trivial⟩) ?_
      refine aw_region ?_
      refine awl_val hτ rfl rfl rfl ?_
      refine awl_val hτ rfl rfl rfl ?_
      refine awl_weak (weak_ofP [0, 1] (l := [(0, .d (.str (bstr aT_))), (3, .row 0 x17.1.length 0 x17.1.length), (4, .d (.int .i64 x17.2.1)), (5, .d (.bool x17.2.2)), (6, .row 1 x23.2.length 0 x23.2.length), (9, .d (.int .i64 x23.1)), (10, .d (.int .i64 (1 : Int))), (46, .row 1 x23.2.length 0 x23.2.length), (47, .d (.int .i64 (1 : Int)))]) (objs := [.row 1 (x17.1.map eStr), .row 1 (x23.2.map eStr)]) rfl (by simp) rfl (by repeat' first | exact trivial | refine ⟨?_, ?_⟩) ⟨rfl, trivial, rfl, trivial, rfl, trivial, rfl, trivial, rfl, trivial, rfl, trivial, rfl, trivial, rfl, trivial, rfl, trivial, trivial⟩) ?_
      refine bnd_elim h fun x25 hx25 h => ?_
      refine awl_callP hτ true [] rfl rfl rfl (enterOk func28 rfl rfl) (mapO_cons (exV_view (f := eStr) x23.2 rfl rfl rfl) (mapO_cons rfl mapO_nil)) rfl (by simp) ⟨(exVP_view (f := eStr) x23.2 rfl rfl rfl), trivial, trivial⟩ (by repeat' first | exact trivial | refine ⟨?_, ?_⟩) (laws_heldStringS_ok_fr n x23.2 (1 : Int) hx25) ?_
      rintro r0 o0 n0 ⟨rfl, rfl, rfl⟩ -
      refine awl_val hτ rfl rfl rfl ?_
      refine awl_nil ?_
      refine aw_seq ?_
      refine aw_seq ?_
      refine aw_region ?_
      refine awl_val hτ rfl rfl rfl ?_
      refine awl_val hτ rfl rfl rfl ?_
      refine awl_nil ?_
      refine aw_cond rfl (fun hc26 => ?_) (fun hc26 => ?_)
      · have h := if_t h hc26
        refine aw_seq ?_
        refine aw_region ?_
        refine awl_val hτ rfl rfl rfl ?_
        refine awl_nil ?_
        refine aw_weak (weak_ofP [] (l := [(2, .d (.bool false))]) (objs := []) rfl (by simp) rfl (by repeat' first | exact trivial | refine ⟨?_, ?_⟩) ⟨rfl, trivial, trivial⟩) ?_
        refine aw_ret ?_
        have hr := Option.some.inj h
        subst hr
        exact ret_objs (.inr rfl) [] (objs' := []) (new := []) rfl (by simp) (by simp) rfl (by repeat' first | exact trivial | refine ⟨?_, ?_⟩) rfl rfl (by repeat' first | exact trivial | refine ⟨?_, ?_⟩) (fun _ => ⟨by simp [V.flat, V.flatA, V.flatC, D.flat], flat_nil⟩) ⟨rfl, rfl, rfl⟩
      · have h := if_f h hc26
        refine aw_skip ?_
        refine aw_seq ?_
        refine aw_seq ?_
        refine aw_region ?_
        refine awl_val hτ rfl rfl rfl ?_
        refine awl_val hτ rfl rfl rfl ?_
        refine awl_val hτ (v := .d (.bool (!(decide (x25 = x23.1))))) rfl rfl (or_ine _ _) ?_
        refine awl_nil ?_
        refine aw_weak (weak_ofP [0, 1] (l := [(0, .d (.str (bstr aT_))), (3, .row 0 x17.1.length 0 x17.1.length), (4, .d (.int .i64 x17.2.1)), (5, .d (.bool x17.2.2)), (6, .row 1 x23.2.length 0 x23.2.length), (9, .d (.int .i64 x23.1)), (53, .d (.bool (!(decide (x25 = x23.1)))))]) (objs := [.row 1 (x17.1.map eStr), .row 1 (x23.2.map eStr)]) rfl (by simp) rfl (by repeat' first | exact trivial | refine ⟨?_, ?_⟩) ⟨rfl, trivial, rfl, trivial, rfl, trivial, rfl, trivial, rfl, trivial, rfl, trivial, rfl, trivial, trivial⟩) ?_
        refine aw_cond rfl (fun hc27 => ?_) (fun hc27 => ?_)
        · have hc27 := not_t hc27
          have h := if_f h hc27
          refine aw_seq ?_
          refine aw_region ?_
          refine awl_val hτ rfl rfl rfl ?_
          refine awl_nil ?_
          refine aw_weak (weak_ofP [] (l := [(2, .d (.bool false))]) (objs := []) rfl (by simp) rfl (by repeat' first | exact trivial | refine ⟨?_, ?_⟩) ⟨rfl, trivial, trivial⟩) ?_
          refine aw_ret ?_
          have hr := Option.some.inj h
          subst hr
          exact ret_objs (.inr rfl) [] (objs' := []) (new := []) rfl (by simp) (by simp) rfl (by repeat' first | exact trivial | refine ⟨?_, ?_⟩) rfl rfl (by repeat' first | exact trivial | refine ⟨?_, ?_⟩) (fun _ => ⟨by simp [V.flat, V.flatA, V.flatC, D.flat], flat_nil⟩) ⟨rfl, rfl, rfl⟩
        · have hc27 := not_f hc27
          have h := if_t h hc27
          refine aw_skip ?_
          refine aw_seq ?_
          refine aw_region ?_
          refine awl_val hτ rfl rfl rfl ?_
          refine bnd_elim h fun x28 hx28 h => ?_
          refine awl_callP hτ false [] rfl rfl rfl (enterOk func26 rfl rfl) rfl rfl (by simp) ⟨trivial, trivial⟩ (by repeat' first | exact trivial | refine ⟨?_, ?_⟩) (impl_RecoverJournal_ok n aT_ hx28) ?_
          rintro r0 o0 n0 ⟨rfl, rfl, rfl⟩ -
          refine awl_val hτ rfl rfl rfl ?_
          refine awl_val hτ rfl rfl rfl ?_
          refine awl_val hτ rfl rfl rfl ?_
          refine awl_val hτ rfl rfl rfl ?_
          refine awl_val hτ rfl rfl rfl ?_
          refine awl_val hτ rfl rfl rfl ?_
          refine awl_val hτ rfl rfl rfl ?_
          refine awl_nil ?_
          refine aw_hk1 (ι := Unit) (fun _ => St.of [(6, .row 0 x23.2.length 0 x23.2.length), (9, .d (.int .i64 x23.1))] [.row 1 (x23.2.map eStr)] f6.ntmps 0) (fun _ => m_laws_FnExactRecoverJournal_j2 n x23 = some r) ?_ (fun hk36 => ?_)
          · rintro ⟨⟩ h
            replace h : m_laws_FnExactRecoverJournal_j2 n x23 = some r := h
            unfold m_laws_FnExactRecoverJournal_j2 at h
            refine aw_seq ?_
            refine aw_region ?_
            refine awl_val hτ rfl rfl rfl ?_
            refine awl_nil ?_
            refine aw_seq ?_
            refine aw_region ?_
            refine awl_val hτ rfl rfl rfl ?_
            refine awl_val hτ rfl rfl rfl ?_
            refine awl_weak (weak_ofP [0] (l := [(9, .d (.int .i64 x23.1)), (10, .d (.int .i64 (1 : Int))), (74, .row 0 x23.2.length 0 x23.2.length), (75, .d (.int .i64 (1 : Int)))]) (objs := [.row 1 (x23.2.map eStr)]) rfl (by simp) rfl (by repeat' first | exact trivial | refine ⟨?_, ?_⟩) ⟨rfl, trivial, rfl, trivial, rfl, trivial, rfl, trivial, trivial⟩) ?_
            refine bnd_elim h fun x33 hx33 h => ?_
            refine awl_callP hτ true [] rfl rfl rfl (enterOk func28 rfl rfl) (mapO_cons (exV_view (f := eStr) x23.2 rfl rfl rfl) (mapO_cons rfl mapO_nil)) rfl (by simp) ⟨(exVP_view (f := eStr) x23.2 rfl rfl rfl), trivial, trivial⟩ (by repeat' first | exact trivial | refine ⟨?_, ?_⟩) (laws_heldStringS_ok_fr n x23.2 (1 : Int) hx33) ?_
            rintro r0 o0 n0 ⟨rfl, rfl, rfl⟩ -
            refine awl_val hτ rfl rfl rfl ?_
            refine awl_nil ?_
            refine aw_seq ?_
            refine aw_seq ?_
            refine aw_region ?_
            refine awl_val hτ rfl rfl rfl ?_
            refine awl_val hτ rfl rfl rfl ?_
            refine awl_nil ?_
            refine aw_cond rfl (fun hc34 => ?_) (fun hc34 => ?_)
            · have h := if_t h hc34
              refine aw_seq ?_
              refine aw_region ?_
              refine awl_val hτ rfl rfl rfl ?_
              refine awl_nil ?_
              refine aw_weak (weak_ofP [] (l := [(2, .d (.bool false))]) (objs := []) rfl (by simp) rfl (by repeat' first | exact trivial | refine ⟨?_, ?_⟩) ⟨rfl, trivial, trivial⟩) ?_
              refine aw_ret ?_
              have hr := Option.some.inj h
              subst hr
              exact ret_objs (.inr rfl) [] (objs' := []) (new := []) rfl (by simp) (by simp) rfl (by repeat' first | exact trivial | refine ⟨?_, ?_⟩) rfl rfl (by repeat' first | exact trivial | refine ⟨?_, ?_⟩) (fun _ => ⟨by simp [V.flat, V.flatA, V.flatC, D.flat], flat_nil⟩) ⟨rfl, rfl, rfl⟩
            · have h := if_f h hc34
              refine aw_skip ?_
              refine aw_seq ?_
              refine aw_seq ?_
              refine aw_region ?_
              refine awl_val hτ rfl rfl rfl ?_
              refine awl_val hτ rfl rfl rfl ?_
              refine awl_val hτ (v := .d (.bool (!(decide (x33 = x23.1))))) rfl rfl (or_ine _ _) ?_
              refine awl_nil ?_
              refine aw_weak (weak_ofP [] (l := [(81, .d (.bool (!(decide (x33 = x23.1)))))]) (objs := []) rfl (by simp) rfl (by repeat' first | exact trivial | refine ⟨?_, ?_⟩) ⟨rfl, trivial, trivial⟩) ?_
              refine aw_cond rfl (fun hc35 => ?_) (fun hc35 => ?_)
              · have hc35 := not_t hc35
                have h := if_f h hc35
                refine aw_seq ?_
                refine aw_region ?_
                refine awl_val hτ rfl rfl rfl ?_
                refine awl_nil ?_
                refine aw_weak (weak_ofP [] (l := [(2, .d (.bool false))]) (objs := []) rfl (by simp) rfl (by repeat' first | exact trivial | refine ⟨?_, ?_⟩) ⟨rfl, trivial, trivial⟩) ?_
                refine aw_ret ?_
                have hr := Option.some.inj h
                subst hr
                exact ret_objs (.inr rfl) [] (objs' := []) (new := []) rfl (by simp) (by simp) rfl (by repeat' first | exact trivial | refine ⟨?_, ?_⟩) rfl rfl (by repeat' first | exact trivial | refine ⟨?_, ?_⟩) (fun _ => ⟨by simp [V.flat, V.flatA, V.flatC, D.flat], flat_nil⟩) ⟨rfl, rfl, rfl⟩
              · have hc35 := not_f hc35
                have h := if_t h hc35
                refine aw_skip ?_
                refine aw_seq ?_
                refine aw_region ?_
                refine awl_val hτ rfl rfl rfl ?_
                refine awl_nil ?_
                refine aw_weak (weak_ofP [] (l := [(2, .d (.bool true))]) (objs := []) rfl (by simp) rfl (by repeat' first | exact trivial | refine ⟨?_, ?_⟩) ⟨rfl, trivial, trivial⟩) ?_
                refine aw_ret ?_
                have hr := Option.some.inj h
                subst hr
                exact ret_objs (.inr rfl) [] (objs' := []) (new := []) rfl (by simp) (by simp) rfl (by repeat' first | exact trivial | refine ⟨?_, ?_⟩) rfl rfl (by repeat' first | exact trivial | refine ⟨?_, ?_⟩) (fun _ => ⟨by simp [V.flat, V.flatA, V.flatC, D.flat], flat_nil⟩) ⟨rfl, rfl, rfl⟩
          · refine aw_seq ?_
            refine aw_hk1 (ι := Bool) (fun v41 => St.of [(6, .row 0 x23.2.length 0 x23.2.length), (9, .d (.int .i64 x23.1)), (73, .d (.bool v41))] [.row 1 (x23.2.map eStr)] f6.ntmps 0) (fun v41 => m_laws_FnExactRecoverJournal_j3 n x23 v41 = some r) ?_ (fun hk43 => ?_)
            · rintro v41 h
              replace h : m_laws_FnExactRecoverJournal_j3 n x23 v41 = some r := h
              unfold m_laws_FnExactRecoverJournal_j3 at h
              refine aw_cond rfl (fun hc42 => ?_) (fun hc42 => ?_)
              · have h := if_bt h hc42
                refine aw_seq ?_
                refine aw_region ?_
                refine awl_val hτ rfl rfl rfl ?_
                refine awl_nil ?_
                refine aw_weak (weak_ofP [] (l := [(2, .d (.bool false))]) (objs := []) rfl (by simp) rfl (by repeat' first | exact trivial | refine ⟨?_, ?_⟩) ⟨rfl, trivial, trivial⟩) ?_
                refine aw_ret ?_
                have hr := Option.some.inj h
                subst hr
                exact ret_objs (.inr rfl) [] (objs' := []) (new := []) rfl (by simp) (by simp) rfl (by repeat' first | exact trivial | refine ⟨?_, ?_⟩) rfl rfl (by repeat' first | exact trivial | refine ⟨?_, ?_⟩) (fun _ => ⟨by simp [V.flat, V.flatA, V.flatC, D.flat], flat_nil⟩) ⟨rfl, rfl, rfl⟩
              · have h := if_bf h hc42
                refine aw_skip ?_
                refine aw_weak (weak_ofP [0] (l := [(6, .row 0 x23.2.length 0 x23.2.length), (9, .d (.int .i64 x23.1))]) (objs := [.row 1 (x23.2.map eStr)]) rfl (by simp) rfl (by repeat' first | exact trivial | refine ⟨?_, ?_⟩) ⟨rfl, trivial, rfl, trivial, trivial⟩) ?_
                exact hk36 () h
            · refine aw_seq ?_
              refine aw_weak (weak_ofP [0, 1, 2] (l := [(3, .row 0 x17.1.length 0 x17.1.length), (4, .d (.int .i64 x17.2.1)), (5, .d (.bool x17.2.2)), (6, .row 1 x23.2.length 0 x23.2.length), (9, .d (.int .i64 x23.1)), (11, .row 2 x28.1.length 0 x28.1.length), (12, .d (.int .i64 x28.2.1)), (13, .d (.bool x28.2.2))]) (objs := [.row 1 (x17.1.map eStr), .row 1 (x23.2.map eStr), .row 1 (x28.1.map eStr)]) rfl (by simp) rfl (by repeat' first | exact trivial | refine ⟨?_, ?_⟩) ⟨rfl, trivial, rfl, trivial, rfl, trivial, rfl, trivial, rfl, trivial, rfl, trivial, rfl, trivial, rfl, trivial, trivial⟩) ?_
              refine aw_region ?_
              refine awl_val hτ rfl rfl rfl ?_
              refine awl_val hτ rfl rfl rfl ?_
              refine awl_weak (weak_ofP [1, 2, 0] (l := [(4, .d (.int .i64 x17.2.1)), (5, .d (.bool x17.2.2)), (6, .row 0 x23.2.length 0 x23.2.length), (9, .d (.int .i64 x23.1)), (12, .d (.int .i64 x28.2.1)), (13, .d (.bool x28.2.2)), (60, .row 1 x28.1.length 0 x28.1.length), (61, .row 2 x17.1.length 0 x17.1.length)]) (objs := [.row 1 (x23.2.map eStr), .row 1 (x28.1.map eStr), .row 1 (x17.1.map eStr)]) rfl (by simp) rfl (by repeat' first | exact trivial | refine ⟨?_, ?_⟩) ⟨rfl, trivial, rfl, trivial, rfl, trivial, rfl, trivial, rfl, trivial, rfl, trivial, rfl, trivial, rfl, trivial, trivial⟩) ?_
              refine bnd_elim h fun x44 hx44 h => ?_
              refine awl_callP hτ true [] rfl rfl rfl (enterOk func22 rfl rfl) (mapO_cons (exV_view (f := eStr) x28.1 rfl rfl rfl) (mapO_cons (exV_view (f := eStr) x17.1 rfl rfl rfl) mapO_nil)) rfl (by simp) ⟨(exVP_view (f := eStr) x28.1 rfl rfl rfl), (exVP_view (f := eStr) x17.1 rfl rfl rfl), trivial⟩ (by repeat' first | exact trivial | refine ⟨?_, ?_⟩) (laws_eqStringS_ok_fr n x28.1 x17.1 hx44) ?_
              rintro r0 o0 n0 ⟨rfl, rfl, rfl⟩ -
              refine awl_val hτ rfl rfl rfl ?_
              refine awl_val hτ rfl rfl rfl ?_
              refine awl_split 64 rfl (fun hb45 => ?_) (fun hb45 => ?_)
              · have hb45 := not_t hb45
                have h := if_bf h hb45
                refine awl_skip rfl rfl ?_
                refine awl_skip rfl rfl ?_
                refine awl_skip rfl rfl ?_
                refine awl_val hτ rfl rfl rfl ?_
                refine awl_val hτ rfl rfl rfl ?_
                refine awl_skip rfl rfl ?_
                refine awl_skip rfl rfl ?_
                refine awl_skip rfl rfl ?_
                refine awl_val hτ rfl rfl rfl ?_
                refine awl_nil ?_
                refine aw_weak (weak_ofP [0] (l := [(6, .row 0 x23.2.length 0 x23.2.length), (9, .d (.int .i64 x23.1)), (73, .d (.bool true))]) (objs := [.row 1 (x23.2.map eStr)]) rfl (by simp) rfl (by repeat' first | exact trivial | refine ⟨?_, ?_⟩) ⟨rfl, trivial, rfl, trivial, rfl, trivial, trivial⟩) ?_
                exact hk43 true h
              · have hb45 := not_f hb45
                have h := if_bt h hb45
                refine awl_val hτ rfl rfl rfl ?_
                refine awl_val hτ rfl rfl rfl ?_
                refine awl_val hτ (v := .d (.bool (!(decide (x28.2.1 = x17.2.1))))) rfl rfl (or_ine _ _) ?_
                refine awl_val hτ rfl rfl rfl ?_
                refine awl_val hτ rfl rfl rfl ?_
                refine awl_split 69 rfl (fun hb46 => ?_) (fun hb46 => ?_)
                · have hb46 := not_t hb46
                  have h := if_f h hb46
                  refine awl_skip rfl rfl ?_
                  refine awl_skip rfl rfl ?_
                  refine awl_skip rfl rfl ?_
                  refine awl_val hτ rfl rfl rfl ?_
                  refine awl_nil ?_
                  refine aw_weak (weak_ofP [0] (l := [(6, .row 0 x23.2.length 0 x23.2.length), (9, .d (.int .i64 x23.1)), (73, .d (.bool true))]) (objs := [.row 1 (x23.2.map eStr)]) rfl (by simp) rfl (by repeat' first | exact trivial | refine ⟨?_, ?_⟩) ⟨rfl, trivial, rfl, trivial, rfl, trivial, trivial⟩) ?_
                  exact hk43 true h
                · have hb46 := not_f hb46
                  have h := if_t h hb46
                  refine awl_val hτ rfl rfl rfl ?_
                  refine awl_val hτ rfl rfl rfl ?_
                  refine awl_val hτ rfl rfl rfl ?_
                  refine awl_val hτ rfl rfl rfl ?_
                  refine awl_nil ?_
                  refine aw_weak (weak_ofP [0] (l := [(6, .row 0 x23.2.length 0 x23.2.length), (9, .d (.int .i64 x23.1)), (73, .d (.bool (!(x28.2.2 == x17.2.2))))]) (objs := [.row 1 (x23.2.map eStr)]) rfl (by simp) rfl (by repeat' first | exact trivial | refine ⟨?_, ?_⟩) ⟨rfl, trivial, rfl, trivial, rfl, trivial, trivial⟩) ?_
                  exact hk43 (!(x28.2.2 == x17.2.2)) h
    · refine aw_seq ?_
      refine aw_hk1 (ι := Bool) (fun v52 => St.of [(0, .d (.str (bstr aT_))), (3, .row 0 x17.1.length 0 x17.1.length), (4, .d (.int .i64 x17.2.1)), (5, .d (.bool x17.2.2)), (6, .row 1 x18.1.length 0 x18.1.length), (42, .d (.bool v52))] [.row 1 (x17.1.map eStr), .row 1 (x18.1.map eStr)] f6.ntmps 0) (fun v52 => m_laws_FnExactRecoverJournal_j4 n aT_ x17 x18 v52 = some r) ?_ (fun hk54 => ?_)
      · rintro v52 h
        replace h : m_laws_FnExactRecoverJournal_j4 n aT_ x17 x18 v52 = some r := h
        unfold m_laws_FnExactRecoverJournal_j4 at h
        refine aw_cond rfl (fun hc53 => ?_) (fun hc53 => ?_)
        · have h := if_bt h hc53
          refine aw_seq ?_
          refine aw_region ?_
          refine awl_val hτ rfl rfl rfl ?_
          refine awl_nil ?_
          refine aw_weak (weak_ofP [] (l := [(2, .d (.bool false))]) (objs := []) rfl (by simp) rfl (by repeat' first | exact trivial | refine ⟨?_, ?_⟩) ⟨rfl, trivial, trivial⟩) ?_
          refine aw_ret ?_
          have hr := Option.some.inj h
          subst hr
          exact ret_objs (.inr rfl) [] (objs' := []) (new := []) rfl (by simp) (by simp) rfl (by repeat' first | exact trivial | refine ⟨?_, ?_⟩) rfl rfl (by repeat' first | exact trivial | refine ⟨?_, ?_⟩) (fun _ => ⟨by simp [V.flat, V.flatA, V.flatC, D.flat], flat_nil⟩) ⟨rfl, rfl, rfl⟩
        · have h := if_bf h hc53
          refine aw_skip ?_
          refine aw_weak (weak_ofP [0, 1] (l := [(0, .d (.str (bstr aT_))), (3, .row 0 x17.1.length 0 x17.1.length), (4, .d (.int .i64 x17.2.1)), (5, .d (.bool x17.2.2)), (6, .row 1 x18.1.length 0 x18.1.length)]) (objs := [.row 1 (x17.1.map eStr), .row 1 (x18.1.map eStr)]) rfl (by simp) rfl (by repeat' first | exact trivial | refine ⟨?_, ?_⟩) ⟨rfl, trivial, rfl, trivial, rfl, trivial, rfl, trivial, rfl, trivial, trivial⟩) ?_
          exact hk47 () h
      · refine aw_seq ?_
        refine aw_weak (weak_ofP [0, 1] (l := [(0, .d (.str (bstr aT_))), (3, .row 0 x17.1.length 0 x17.1.length), (4, .d (.int .i64 x17.2.1)), (5, .d (.bool x17.2.2)), (6, .row 1 x18.1.length 0 x18.1.length), (7, .d (.int .i64 x18.2.1)), (8, .d (.bool x18.2.2))]) (objs := [.row 1 (x17.1.map eStr), .row 1 (x18.1.map eStr)]) rfl (by simp) rfl (by repeat' first | exact trivial | refine ⟨?_, ?_⟩) ⟨rfl, trivial, rfl, trivial, rfl, trivial, rfl, trivial, rfl, trivial, rfl, trivial, rfl, trivial, trivial⟩) ?_
        refine aw_region ?_
        refine awl_val hτ rfl rfl rfl ?_
        refine awl_val hτ rfl rfl rfl ?_
        refine awl_weak (weak_ofP [0, 1] (l := [(0, .d (.str (bstr aT_))), (3, .row 0 x17.1.length 0 x17.1.length), (4, .d (.int .i64 x17.2.1)), (5, .d (.bool x17.2.2)), (6, .row 1 x18.1.length 0 x18.1.length), (7, .d (.int .i64 x18.2.1)), (8, .d (.bool x18.2.2)), (29, .row 1 x18.1.length 0 x18.1.length), (30, .row 0 x17.1.length 0 x17.1.length)]) (objs := [.row 1 (x17.1.map eStr), .row 1 (x18.1.map eStr)]) rfl (by simp) rfl (by repeat' first | exact trivial | refine ⟨?_, ?_⟩) ⟨rfl, trivial, rfl, trivial, rfl, trivial, rfl, trivial, rfl, trivial, rfl, trivial, rfl, trivial, rfl, trivial, rfl, trivial, trivial⟩) ?_
        refine bnd_elim h fun x55 hx55 h => ?_
        refine awl_callP hτ true [] rfl rfl rfl (enterOk func22 rfl rfl) (mapO_cons (exV_view (f := eStr) x18.1 rfl rfl rfl) (mapO_cons (exV_view (f := eStr) x17.1 rfl rfl rfl) mapO_nil)) rfl (by simp) ⟨(exVP_view (f := eStr) x18.1 rfl rfl rfl), (exVP_view (f := eStr) x17.1 rfl rfl rfl), trivial⟩ (by repeat' first | exact trivial | refine ⟨?_, ?_⟩) (laws_eqStringS_ok_fr n x18.1 x17.1 hx55) ?_
        rintro r0 o0 n0 ⟨rfl, rfl, rfl⟩ -
        refine awl_val hτ rfl rfl rfl ?_
        refine awl_val hτ rfl rfl rfl ?_
        refine awl_split 33 rfl (fun hb56 => ?_) (fun hb56 => ?_)
        · have hb56 := not_t hb56
          have h := if_bf h hb56
          refine awl_skip rfl rfl ?_
          refine awl_skip rfl rfl ?_
          refine awl_skip rfl rfl ?_
          refine awl_val hτ rfl rfl rfl ?_
          refine awl_val hτ rfl rfl rfl ?_
          refine awl_skip rfl rfl ?_
          refine awl_skip rfl rfl ?_
          refine awl_skip rfl rfl ?_
          refine awl_val hτ rfl rfl rfl ?_
          refine awl_nil ?_
          refine aw_weak (weak_ofP [0, 1] (l := [(0, .d (.str (bstr aT_))), (3, .row 0 x17.1.length 0 x17.1.length), (4, .d (.int .i64 x17.2.1)), (5, .d (.bool x17.2.2)), (6, .row 1 x18.1.length 0 x18.1.length), (42, .d (.bool true))]) (objs := [.row 1 (x17.1.map eStr), .row 1 (x18.1.map eStr)]) rfl (by simp) rfl (by repeat' first | exact trivial | refine ⟨?_, ?_⟩) ⟨rfl, trivial, rfl, trivial, rfl, trivial, rfl, trivial, rfl, trivial, rfl, trivial, trivial⟩) ?_
          exact hk54 true h
        · have hb56 := not_f hb56
          have h := if_bt h hb56
          refine awl_val hτ rfl rfl rfl ?_
          refine awl_val hτ rfl rfl rfl ?_
          refine awl_val hτ (v := .d (.bool (!(decide (x18.2.1 = x17.2.1))))) rfl rfl (or_ine _ _) ?_
          refine awl_val hτ rfl rfl rfl ?_
          refine awl_val hτ rfl rfl rfl ?_
          refine awl_split 38 rfl (fun hb57 => ?_) (fun hb57 => ?_)
          · have hb57 := not_t hb57
            have h := if_f h hb57
            refine awl_skip rfl rfl ?_
            refine awl_skip rfl rfl ?_
            refine awl_skip rfl rfl ?_
            refine awl_val hτ rfl rfl rfl ?_
            refine awl_nil ?_
            refine aw_weak (weak_ofP [0, 1] (l := [(0, .d (.str (bstr aT_))), (3, .row 0 x17.1.length 0 x17.1.length), (4, .d (.int .i64 x17.2.1)), (5, .d (.bool x17.2.2)), (6, .row 1 x18.1.length 0 x18.1.length), (42, .d (.bool true))]) (objs := [.row 1 (x17.1.map eStr), .row 1 (x18.1.map eStr)]) rfl (by simp) rfl (by repeat' first | exact trivial | refine ⟨?_, ?_⟩) ⟨rfl, trivial, rfl, trivial, rfl, trivial, rfl, trivial, rfl, trivial, rfl, trivial, trivial⟩) ?_
            exact hk54 true h
          · have hb57 := not_f hb57
            have h := if_t h hb57
            refine awl_val hτ rfl rfl rfl ?_
            refine awl_val hτ rfl rfl rfl ?_
            refine awl_val hτ rfl rfl rfl ?_
            refine awl_val hτ rfl rfl rfl ?_
            refine awl_nil ?_
            refine aw_weak (weak_ofP [0, 1] (l := [(0, .d (.str (bstr aT_))), (3, .row 0 x17.1.length 0 x17.1.length), (4, .d (.int .i64 x17.2.1)), (5, .d (.bool x17.2.2)), (6, .row 1 x18.1.length 0 x18.1.length), (42, .d (.bool (!(x18.2.2 == x17.2.2))))]) (objs := [.row 1 (x17.1.map eStr), .row 1 (x18.1.map eStr)]) rfl (by simp) rfl (by repeat' first | exact trivial | refine ⟨?_, ?_⟩) ⟨rfl, trivial, rfl, trivial, rfl, trivial, rfl, trivial, rfl, trivial, rfl, trivial, trivial⟩) ?_
            exact hk54 (!(x18.2.2 == x17.2.2)) h
theorem laws_FnExactRecoverJournal_ok (n : Nat) (aT_ : Str) {r : Bool} (h : m_laws_FnExactRecoverJournal n aT_ = some r) : ACall prog false 6 [.d (.str (bstr aT_))] [] (fun v o new => v = .d (.bool r) ∧ o = [] ∧ new = []) := laws_FnExactRecoverJournal_ok_fr0 false n aT_ h
theorem laws_FnExactRecoverJournal_ok_fr (n : Nat) (aT_ : Str) {r : Bool} (h : m_laws_FnExactRecoverJournal n aT_ = some r) : ACall prog true 6 [.d (.str (bstr aT_))] [] (fun v o new => v = .d (.bool r) ∧ o = [] ∧ new = []) := laws_FnExactRecoverJournal_ok_fr0 true n aT_ h

end Go.Proofs.YtkagbffdmppbhaaDoor.AWN
