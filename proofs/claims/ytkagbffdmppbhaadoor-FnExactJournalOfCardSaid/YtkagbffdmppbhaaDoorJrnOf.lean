/- Models and contracts, printed by program. -/
import Derived.Test.YtkagbffdmppbhaaDoorTypes
set_option linter.unusedVariables false
set_option linter.unusedSimpArgs false
set_option linter.unusedSectionVars false
set_option maxHeartbeats 2000000
namespace Go.Proofs.YtkagbffdmppbhaaDoor.AWN
open Go Go.Proofs.Tryd

def eStr (x : Str) : List D := [.str (bstr x)]
@[simp] theorem eStr_len (x : Str) : (eStr x).length = 1 := rfl
theorem eStr_flat (x : Str) : ∀ c ∈ eStr x, c.flat := by simp [eStr, D.flat]
def eIntu8 (x : Int) : List D := [.int .u8 x]
@[simp] theorem eIntu8_len (x : Int) : (eIntu8 x).length = 1 := rfl
theorem eIntu8_flat (x : Int) : ∀ c ∈ eIntu8 x, c.flat := by simp [eIntu8, D.flat]

theorem ext90 {s : Str} {c : Int} : ExtDoes prog 90 [.d (.str (bstr s)), .d (.int .u8 c)] (.d (.int .i64 (idxB s c))) := extDoes (e := Extern.BytealgIndexByte.indexByte) func90 rfl rfl (by kernel_rfl) (by kernel_rfl) fun W hb H ok vals h => idx_run h
def m_laws_szStringS_l1 (n : Nat) (a_ : List Str) : Nat → Int → Int → Option Int
  | 0, _, _ => none
  | m14 + 1, v9, v10 =>
    if v10 < (a_.length : Int) then
      (getI a_ v10).bind fun x18 =>
      if (w64 (v9 - (x18.length : Int))) < (0 : Int) then
        some (-1 : Int)
      else
        (m_laws_szStringS_l1 n a_ m14) (w64 (v9 - (x18.length : Int))) (w64 (v10 + (1 : Int)))
    else
      some v9
def m_laws_szStringS (n : Nat) (a_ : List Str) (left_ : Int) : Option Int :=
  if (w64 (left_ - (a_.length : Int))) < (0 : Int) then
    some (-1 : Int)
  else
    m_laws_szStringS_l1 n a_ n (w64 (left_ - (a_.length : Int))) (0 : Int)
theorem laws_szStringS_ok_fr0 (fr : Bool) (n : Nat) (a_ : List Str) (left_ : Int) {r : Int} (h : m_laws_szStringS n a_ left_ = some r) : ACall prog fr 18 [.d (.sl false (a_.map eStr)), .d (.int .i64 left_)] [] (fun v o new => v = .d (.int .i64 r) ∧ o = [] ∧ new = []) := by
  refine acall_of_aw hτ func18 rfl (by simp) (by simp) ?_
  unfold m_laws_szStringS at h
  refine aw_seq ?_
  refine aw_region ?_
  refine awl_val hτ rfl rfl rfl ?_
  refine awl_nil ?_
  refine aw_seq ?_
  refine aw_region ?_
  refine awl_val hτ rfl rfl rfl ?_
  refine awl_val hτ rfl rfl rfl ?_
  refine awl_val hτ (v := .d (.int .i64 (a_.length : Int))) rfl rfl (Eq.trans rfl (or_len (f := eStr) a_)) ?_
  refine awl_val hτ rfl rfl rfl ?_
  refine awl_val hτ rfl rfl rfl ?_
  refine awl_nil ?_
  refine aw_seq ?_
  refine aw_seq ?_
  refine aw_weak (weak_ofP [] (l := [(0, .d (.sl false (a_.map eStr))), (1, .d (.int .i64 (w64 (left_ - (a_.length : Int)))))]) (objs := []) rfl (by simp) rfl (by repeat' first | exact trivial | refine ⟨?_, ?_⟩) ⟨rfl, trivial, rfl, trivial, trivial⟩) ?_
  refine aw_region ?_
  refine awl_val hτ rfl rfl rfl ?_
  refine awl_val hτ rfl rfl rfl ?_
  refine awl_nil ?_
  refine aw_cond rfl (fun hc7 => ?_) (fun hc7 => ?_)
  · have h := if_t h hc7
    refine aw_seq ?_
    refine aw_region ?_
    refine awl_val hτ rfl rfl rfl ?_
    refine awl_nil ?_
    refine aw_weak (weak_ofP [] (l := [(4, .d (.int .i64 (-1 : Int)))]) (objs := []) rfl (by simp) rfl (by repeat' first | exact trivial | refine ⟨?_, ?_⟩) ⟨rfl, trivial, trivial⟩) ?_
    refine aw_ret ?_
    have hr := Option.some.inj h
    subst hr
    exact ret_objs (.inr rfl) [] (objs' := []) (new := []) rfl (by simp) (by simp) rfl (by repeat' first | exact trivial | refine ⟨?_, ?_⟩) rfl rfl (by repeat' first | exact trivial | refine ⟨?_, ?_⟩) (fun _ => ⟨by simp [V.flat, V.flatA, V.flatC, D.flat], flat_nil⟩) ⟨rfl, rfl, rfl⟩
  · have h := if_f h hc7
    refine aw_skip ?_
    refine aw_seq ?_
    refine aw_seq ?_
    refine aw_region ?_
    refine awl_val hτ rfl rfl rfl ?_
    refine awl_nil ?_
    refine aw_block ?_
    refine aw_loop (ι := Nat × Int × Int) (fun (m14, v9, v10) => St.of [(0, .d (.sl false (a_.map eStr))), (1, .d (.int .i64 v9)), (5, .d (.int .i64 v10))] [] f18.ntmps 0) (fun (m14, v9, v10) => m_laws_szStringS_l1 n a_ m14 v9 v10 = some r) (fun x => x.1) (n, (w64 (left_ - (a_.length : Int))), (0 : Int)) h (weak_ofP [] (l := [(0, .d (.sl false (a_.map eStr))), (1, .d (.int .i64 (w64 (left_ - (a_.length : Int))))), (5, .d (.int .i64 (0 : Int)))]) (objs := []) rfl (by simp) rfl (by repeat' first | exact trivial | refine ⟨?_, ?_⟩) ⟨rfl, trivial, rfl, trivial, rfl, trivial, trivial⟩) ?_
    rintro ⟨m14, v9, v10⟩ h
    replace h : m_laws_szStringS_l1 n a_ m14 v9 v10 = some r := h
    rcases m14 with _ | m14
    · rw [m_laws_szStringS_l1] at h; cases h
    rw [m_laws_szStringS_l1] at h
    refine aw_seq ?_
    refine aw_seq ?_
    refine aw_region ?_
    refine awl_val hτ rfl rfl rfl ?_
    refine awl_val hτ rfl rfl rfl ?_
    refine awl_val hτ (v := .d (.int .i64 (a_.length : Int))) rfl rfl (Eq.trans rfl (or_len (f := eStr) a_)) ?_
    refine awl_val hτ rfl rfl rfl ?_
    refine awl_nil ?_
    refine aw_cond rfl (fun hc16 => ?_) (fun hc16 => ?_)
    · have h := if_t h hc16
      refine aw_skip ?_
      refine aw_seq ?_
      refine aw_block ?_
      refine aw_seq ?_
      refine aw_region ?_
      refine awl_val hτ rfl rfl rfl ?_
      refine awl_val hτ rfl rfl rfl ?_
      refine awl_val hτ rfl rfl rfl ?_
      refine bnd_elim h fun x18 hx18 h => ?_
      refine awl_elem hτ rfl rfl rfl (getI_some hx18).1 (map_getI hx18) rfl ?_
      refine awl_val hτ rfl rfl rfl ?_
      refine awl_val hτ rfl rfl rfl ?_
      refine awl_val hτ rfl rfl rfl ?_
      refine awl_val hτ rfl rfl rfl ?_
      refine awl_nil ?_
      refine aw_seq ?_
      refine aw_weak (weak_ofP [] (l := [(0, .d (.sl false (a_.map eStr))), (1, .d (.int .i64 (w64 (v9 - (x18.length : Int))))), (5, .d (.int .i64 v10))]) (objs := []) rfl (by simp) rfl (by repeat' first | exact trivial | refine ⟨?_, ?_⟩) ⟨rfl, trivial, rfl, trivial, rfl, trivial, trivial⟩) ?_
      refine aw_region ?_
      refine awl_val hτ rfl rfl rfl ?_
      refine awl_val hτ rfl rfl rfl ?_
      refine awl_nil ?_
      refine aw_cond rfl (fun hc19 => ?_) (fun hc19 => ?_)
      · have h := if_t h hc19
        refine aw_seq ?_
        refine aw_region ?_
        refine awl_val hτ rfl rfl rfl ?_
        refine awl_nil ?_
        refine aw_weak (weak_ofP [] (l := [(4, .d (.int .i64 (-1 : Int)))]) (objs := []) rfl (by simp) rfl (by repeat' first | exact trivial | refine ⟨?_, ?_⟩) ⟨rfl, trivial, trivial⟩) ?_
        refine aw_ret ?_
        have hr := Option.some.inj h
        subst hr
        exact ret_objs (.inr rfl) [] (objs' := []) (new := []) rfl (by simp) (by simp) rfl (by repeat' first | exact trivial | refine ⟨?_, ?_⟩) rfl rfl (by repeat' first | exact trivial | refine ⟨?_, ?_⟩) (fun _ => ⟨by simp [V.flat, V.flatA, V.flatC, D.flat], flat_nil⟩) ⟨rfl, rfl, rfl⟩
      · have h := if_f h hc19
        refine aw_skip ?_
        refine aw_region ?_
        refine awl_val hτ rfl rfl rfl ?_
        refine awl_val hτ rfl rfl rfl ?_
        refine awl_val hτ rfl rfl rfl ?_
        refine awl_nil ?_
        exact ⟨(m14, (w64 (v9 - (x18.length : Int))), (w64 (v10 + (1 : Int)))), h, Nat.lt_succ_self m14, (weak_ofP [] (l := [(0, .d (.sl false (a_.map eStr))), (1, .d (.int .i64 (w64 (v9 - (x18.length : Int))))), (5, .d (.int .i64 (w64 (v10 + (1 : Int)))))]) (objs := []) rfl (by simp) rfl (by repeat' first | exact trivial | refine ⟨?_, ?_⟩) ⟨rfl, trivial, rfl, trivial, rfl, trivial, trivial⟩)⟩
    · have h := if_f h hc16
      refine aw_exit ?_
      refine aw_seq ?_
      refine aw_region ?_
      refine awl_val hτ rfl rfl rfl ?_
      refine awl_val hτ rfl rfl rfl ?_
      refine awl_nil ?_
      refine aw_weak (weak_ofP [] (l := [(4, .d (.int .i64 v9))]) (objs := []) rfl (by simp) rfl (by repeat' first | exact trivial | refine ⟨?_, ?_⟩) ⟨rfl, trivial, trivial⟩) ?_
      refine aw_ret ?_
      have hr := Option.some.inj h
      subst hr
      exact ret_objs (.inr rfl) [] (objs' := []) (new := []) rfl (by simp) (by simp) rfl (by repeat' first | exact trivial | refine ⟨?_, ?_⟩) rfl rfl (by repeat' first | exact trivial | refine ⟨?_, ?_⟩) (fun _ => ⟨by simp [V.flat, V.flatA, V.flatC, D.flat], flat_nil⟩) ⟨rfl, rfl, rfl⟩
theorem laws_szStringS_ok (n : Nat) (a_ : List Str) (left_ : Int) {r : Int} (h : m_laws_szStringS n a_ left_ = some r) : ACall prog false 18 [.d (.sl false (a_.map eStr)), .d (.int .i64 left_)] [] (fun v o new => v = .d (.int .i64 r) ∧ o = [] ∧ new = []) := laws_szStringS_ok_fr0 false n a_ left_ h
theorem laws_szStringS_ok_fr (n : Nat) (a_ : List Str) (left_ : Int) {r : Int} (h : m_laws_szStringS n a_ left_ = some r) : ACall prog true 18 [.d (.sl false (a_.map eStr)), .d (.int .i64 left_)] [] (fun v o new => v = .d (.int .i64 r) ∧ o = [] ∧ new = []) := laws_szStringS_ok_fr0 true n a_ left_ h

def m_laws_toStringS_l1 (n : Nat) (a_ : List Str) : Nat → List Str → Int → Option (List Str)
  | 0, _, _ => none
  | m19 + 1, v13, v14 =>
    if v14 < (a_.length : Int) then
      (getI a_ v14).bind fun x22 =>
      (getI v13 v14).bind fun x23 =>
      (m_laws_toStringS_l1 n a_ m19) (v13.set v14.toNat x22) (w64 (v14 + (1 : Int)))
    else
      some v13
def m_laws_toStringS (n : Nat) (a_ : List Str) : Option (List Str) :=
  grd (0 ≤ (a_.length : Int) ∧ room (a_.length : Int).toNat 16) <|
  m_laws_toStringS_l1 n a_ n (List.replicate (a_.length : Int).toNat ([] : Str)) (0 : Int)
theorem laws_toStringS_ok_fr0 (fr : Bool) (n : Nat) (a_ : List Str) {r : List Str} (h : m_laws_toStringS n a_ = some r) : ACall prog fr 20 [.d (.sl false (a_.map eStr))] [] (fun v o new => v = .row 0 r.length 0 r.length ∧ o = [] ∧ new = [.row 1 (r.map eStr)]) := by
  refine acall_of_aw hτ func20 rfl (by simp) (by simp) ?_
  unfold m_laws_toStringS at h
  refine aw_seq ?_
  refine aw_region ?_
  refine awl_val hτ rfl rfl rfl ?_
  refine awl_nil ?_
  refine aw_seq ?_
  refine aw_region ?_
  refine awl_val hτ rfl rfl rfl ?_
  refine awl_val hτ (v := .d (.int .i64 (a_.length : Int))) rfl rfl (Eq.trans rfl (or_len (f := eStr) a_)) ?_
  refine grd_elim h fun hg10 h => ?_
  refine awl_needH hτ rfl rfl (Eq.trans rfl (or_make (f := eStr) (x := ([] : Str)) rfl)) (make_need hg10 (by decide)) ?_
  refine awl_val hτ rfl rfl rfl ?_
  refine awl_nil ?_
  refine aw_seq ?_
  refine aw_seq ?_
  refine aw_region ?_
  refine awl_val hτ rfl rfl rfl ?_
  refine awl_nil ?_
  refine aw_block ?_
  refine aw_loop (ι := Nat × List Str × Int) (fun (m19, v13, v14) => St.of [(0, .d (.sl false (a_.map eStr))), (3, .row 0 v13.length 0 v13.length), (4, .d (.int .i64 v14))] [.row 1 (v13.map eStr)] f20.ntmps 0) (fun (m19, v13, v14) => m_laws_toStringS_l1 n a_ m19 v13 v14 = some r) (fun x => x.1) (n, (List.replicate (a_.length : Int).toNat ([] : Str)), (0 : Int)) h (weak_ofP [0] (l := [(0, .d (.sl false (a_.map eStr))), (3, .row 0 ((List.replicate (a_.length : Int).toNat ([] : Str)).length) 0 ((List.replicate (a_.length : Int).toNat ([] : Str)).length)), (4, .d (.int .i64 (0 : Int)))]) (objs := [.row 1 ((List.replicate (a_.length : Int).toNat ([] : Str)).map eStr)]) rfl (by simp) rfl (by repeat' first | exact trivial | refine ⟨?_, ?_⟩) ⟨rfl, trivial, rfl, trivial, rfl, trivial, trivial⟩) ?_
  rintro ⟨m19, v13, v14⟩ h
  replace h : m_laws_toStringS_l1 n a_ m19 v13 v14 = some r := h
  rcases m19 with _ | m19
  · rw [m_laws_toStringS_l1] at h; cases h
  rw [m_laws_toStringS_l1] at h
  refine aw_seq ?_
  refine aw_seq ?_
  refine aw_region ?_
  refine awl_val hτ rfl rfl rfl ?_
  refine awl_val hτ rfl rfl rfl ?_
  refine awl_val hτ (v := .d (.int .i64 (a_.length : Int))) rfl rfl (Eq.trans rfl (or_len (f := eStr) a_)) ?_
  refine awl_val hτ rfl rfl rfl ?_
  refine awl_nil ?_
  refine aw_cond rfl (fun hc21 => ?_) (fun hc21 => ?_)
  · have h := if_t h hc21
    refine aw_skip ?_
    refine aw_seq ?_
    refine aw_block ?_
    refine aw_region ?_
    refine awl_val hτ rfl rfl rfl ?_
    refine awl_val hτ rfl rfl rfl ?_
    refine awl_val hτ rfl rfl rfl ?_
    refine awl_val hτ rfl rfl rfl ?_
    refine bnd_elim h fun x22 hx22 h => ?_
    refine awl_elem hτ rfl rfl rfl (getI_some hx22).1 (map_getI hx22) rfl ?_
    refine awl_val hτ rfl rfl rfl ?_
    refine bnd_elim h fun x23 hx23 h => ?_
    refine awl_need hτ rfl rfl rfl (row_need hx23) ?_
    refine awl_elemH hτ rfl rfl rfl (len_map _) (row_get hx23) (set_val (f := eStr) (l := v13) (i := v14) (y := x22) rfl) ?_
    refine awl_nil ?_
    refine aw_weak (weak_ofP [0] (l := [(0, .d (.sl false (a_.map eStr))), (3, .row 0 ((v13.set v14.toNat x22).length) 0 ((v13.set v14.toNat x22).length)), (4, .d (.int .i64 v14))]) (objs := [.row 1 ((v13.set v14.toNat x22).map eStr)]) rfl (by simp) rfl (by repeat' first | exact trivial | refine ⟨?_, ?_⟩) ⟨rfl, trivial, (exV_rowL rfl (by simp)), trivial, rfl, trivial, trivial⟩) ?_
    refine aw_region ?_
    refine awl_val hτ rfl rfl rfl ?_
    refine awl_val hτ rfl rfl rfl ?_
    refine awl_val hτ rfl rfl rfl ?_
    refine awl_nil ?_
    exact ⟨(m19, (v13.set v14.toNat x22), (w64 (v14 + (1 : Int)))), h, Nat.lt_succ_self m19, (weak_ofP [0] (l := [(0, .d (.sl false (a_.map eStr))), (3, .row 0 ((v13.set v14.toNat x22).length) 0 ((v13.set v14.toNat x22).length)), (4, .d (.int .i64 (w64 (v14 + (1 : Int)))))]) (objs := [.row 1 ((v13.set v14.toNat x22).map eStr)]) rfl (by simp) rfl (by repeat' first | exact trivial | refine ⟨?_, ?_⟩) ⟨rfl, trivial, rfl, trivial, rfl, trivial, trivial⟩)⟩
  · have h := if_f h hc21
    refine aw_exit ?_
    refine aw_seq ?_
    refine aw_region ?_
    refine awl_val hτ rfl rfl rfl ?_
    refine awl_val hτ rfl rfl rfl ?_
    refine awl_nil ?_
    refine aw_weak (weak_ofP [0] (l := [(2, .row 0 v13.length 0 v13.length)]) (objs := [.row 1 (v13.map eStr)]) rfl (by simp) rfl (by repeat' first | exact trivial | refine ⟨?_, ?_⟩) ⟨rfl, trivial, trivial⟩) ?_
    refine aw_ret ?_
    have hr := Option.some.inj h
    subst hr
    exact ret_objs (.inr rfl) [0] (objs' := []) (new := [.row 1 (v13.map eStr)]) rfl (by simp) (by simp) rfl (by repeat' first | exact trivial | refine ⟨?_, ?_⟩) rfl rfl (by repeat' first | exact trivial | refine ⟨?_, ?_⟩) (fun _ => ⟨by simp [V.flat, V.flatA, V.flatC, D.flat], (flat_cons (flat_row eStr_flat _) flat_nil)⟩) ⟨rfl, rfl, rfl⟩
theorem laws_toStringS_ok (n : Nat) (a_ : List Str) {r : List Str} (h : m_laws_toStringS n a_ = some r) : ACall prog false 20 [.d (.sl false (a_.map eStr))] [] (fun v o new => v = .row 0 r.length 0 r.length ∧ o = [] ∧ new = [.row 1 (r.map eStr)]) := laws_toStringS_ok_fr0 false n a_ h
theorem laws_toStringS_ok_fr (n : Nat) (a_ : List Str) {r : List Str} (h : m_laws_toStringS n a_ = some r) : ACall prog true 20 [.d (.sl false (a_.map eStr))] [] (fun v o new => v = .row 0 r.length 0 r.length ∧ o = [] ∧ new = [.row 1 (r.map eStr)]) := laws_toStringS_ok_fr0 true n a_ h

def m_spec_l01Check_l1 (n : Nat) (s_ : Str) : Nat → Int → Int → Option Int
  | 0, _, _ => none
  | m13 + 1, v8, v9 =>
    if v9 < (s_.length : Int) then
      (getI s_ v9).bind fun x16 =>
      (m_spec_l01Check_l1 n s_ m13) ((w64 ((w64 ((w64 ((691 : Int) * v8)) + (w64 ((x16.toNat : Int))))) + (43 : Int))).tmod (65003 : Int)) (w64 (v9 + (1 : Int)))
    else
      some v8
def m_spec_l01Check (n : Nat) (n_ : Int) (s_ : Str) : Option Int :=
  m_spec_l01Check_l1 n s_ n n_ (0 : Int)
theorem spec_l01Check_ok_fr0 (fr : Bool) (n : Nat) (n_ : Int) (s_ : Str) {r : Int} (h : m_spec_l01Check n n_ s_ = some r) : ACall prog fr 56 [.d (.int .i64 n_), .d (.str (bstr s_))] [] (fun v o new => v = .d (.int .i64 r) ∧ o = [] ∧ new = []) := by
  refine acall_of_aw hτ func56 rfl (by simp) (by simp) ?_
  unfold m_spec_l01Check at h
  refine aw_seq ?_
  refine aw_region ?_
  refine awl_val hτ rfl rfl rfl ?_
  refine awl_nil ?_
  refine aw_seq ?_
  refine aw_seq ?_
  refine aw_region ?_
  refine awl_val hτ rfl rfl rfl ?_
  refine awl_nil ?_
  refine aw_block ?_
  refine aw_loop (ι := Nat × Int × Int) (fun (m13, v8, v9) => St.of [(0, .d (.int .i64 v8)), (1, .d (.str (bstr s_))), (5, .d (.int .i64 v9))] [] f56.ntmps 0) (fun (m13, v8, v9) => m_spec_l01Check_l1 n s_ m13 v8 v9 = some r) (fun x => x.1) (n, n_, (0 : Int)) h (weak_ofP [] (l := [(0, .d (.int .i64 n_)), (1, .d (.str (bstr s_))), (5, .d (.int .i64 (0 : Int)))]) (objs := []) rfl (by simp) rfl (by repeat' first | exact trivial | refine ⟨?_, ?_⟩) ⟨rfl, trivial, rfl, trivial, rfl, trivial, trivial⟩) ?_
  rintro ⟨m13, v8, v9⟩ h
  replace h : m_spec_l01Check_l1 n s_ m13 v8 v9 = some r := h
  rcases m13 with _ | m13
  · rw [m_spec_l01Check_l1] at h; cases h
  rw [m_spec_l01Check_l1] at h
  refine aw_seq ?_
  refine aw_seq ?_
  refine aw_region ?_
  refine awl_val hτ rfl rfl rfl ?_
  refine awl_val hτ rfl rfl rfl ?_
  refine awl_val hτ rfl rfl rfl ?_
  refine awl_val hτ rfl rfl rfl ?_
  refine awl_nil ?_
  refine aw_cond rfl (fun hc15 => ?_) (fun hc15 => ?_)
  · have h := if_t h hc15
    refine aw_skip ?_
    refine aw_seq ?_
    refine aw_block ?_
    refine aw_region ?_
    refine awl_val hτ rfl rfl rfl ?_
    refine awl_val hτ rfl rfl rfl ?_
    refine awl_val hτ rfl rfl rfl ?_
    refine awl_val hτ rfl rfl rfl ?_
    refine bnd_elim h fun x16 hx16 h => ?_
    refine awl_need hτ (v := .d (.int .u8 (x16.toNat : Int))) rfl rfl (Eq.trans rfl (or_sidx hx16)) (sidx_need hx16) ?_
    refine awl_val hτ rfl rfl rfl ?_
    refine awl_val hτ rfl rfl rfl ?_
    refine awl_val hτ rfl rfl rfl ?_
    refine awl_weak (weak_ofP [] (l := [(0, .d (.int .i64 v8)), (1, .d (.str (bstr s_))), (5, .d (.int .i64 v9)), (19, .d (.int .i64 (w64 ((w64 ((w64 ((691 : Int) * v8)) + (w64 ((x16.toNat : Int))))) + (43 : Int)))))]) (objs := []) rfl (by simp) rfl (by repeat' first | exact trivial | refine ⟨?_, ?_⟩) ⟨rfl, trivial, rfl, trivial, rfl, trivial, rfl, trivial, trivial⟩) ?_
    refine awl_need hτ rfl rfl rfl (by decide) ?_
    refine awl_val hτ rfl rfl rfl ?_
    refine awl_nil ?_
    refine aw_region ?_
    refine awl_val hτ rfl rfl rfl ?_
    refine awl_val hτ rfl rfl rfl ?_
    refine awl_val hτ rfl rfl rfl ?_
    refine awl_nil ?_
    exact ⟨(m13, ((w64 ((w64 ((w64 ((691 : Int) * v8)) + (w64 ((x16.toNat : Int))))) + (43 : Int))).tmod (65003 : Int)), (w64 (v9 + (1 : Int)))), h, Nat.lt_succ_self m13, (weak_ofP [] (l := [(0, .d (.int .i64 ((w64 ((w64 ((w64 ((691 : Int) * v8)) + (w64 ((x16.toNat : Int))))) + (43 : Int))).tmod (65003 : Int)))), (1, .d (.str (bstr s_))), (5, .d (.int .i64 (w64 (v9 + (1 : Int)))))]) (objs := []) rfl (by simp) rfl (by repeat' first | exact trivial | refine ⟨?_, ?_⟩) ⟨rfl, trivial, rfl, trivial, rfl, trivial, trivial⟩)⟩
  · have h := if_f h hc15
    refine aw_exit ?_
    refine aw_seq ?_
    refine aw_region ?_
    refine awl_val hτ rfl rfl rfl ?_
    refine awl_val hτ rfl rfl rfl ?_
    refine awl_nil ?_
    refine aw_weak (weak_ofP [] (l := [(4, .d (.int .i64 v8))]) (objs := []) rfl (by simp) rfl (by repeat' first | exact trivial | refine ⟨?_, ?_⟩) ⟨rfl, trivial, trivial⟩) ?_
    refine aw_ret ?_
    have hr := Option.some.inj h
    subst hr
    exact ret_objs (.inr rfl) [] (objs' := []) (new := []) rfl (by simp) (by simp) rfl (by repeat' first | exact trivial | refine ⟨?_, ?_⟩) rfl rfl (by repeat' first | exact trivial | refine ⟨?_, ?_⟩) (fun _ => ⟨by simp [V.flat, V.flatA, V.flatC, D.flat], flat_nil⟩) ⟨rfl, rfl, rfl⟩
theorem spec_l01Check_ok (n : Nat) (n_ : Int) (s_ : Str) {r : Int} (h : m_spec_l01Check n n_ s_ = some r) : ACall prog false 56 [.d (.int .i64 n_), .d (.str (bstr s_))] [] (fun v o new => v = .d (.int .i64 r) ∧ o = [] ∧ new = []) := spec_l01Check_ok_fr0 false n n_ s_ h
theorem spec_l01Check_ok_fr (n : Nat) (n_ : Int) (s_ : Str) {r : Int} (h : m_spec_l01Check n n_ s_ = some r) : ACall prog true 56 [.d (.int .i64 n_), .d (.str (bstr s_))] [] (fun v o new => v = .d (.int .i64 r) ∧ o = [] ∧ new = []) := spec_l01Check_ok_fr0 true n n_ s_ h

def m_spec_l01Dec_j2 (n : Nat) (v30 : List Int) : Option Str :=
  some (chars v30)
def m_spec_l01Dec_j1 (n : Nat) (n_ : Int) (v27 : List Int) : Option Str :=
  if n_ < (0 : Int) then
    grd (room ([(45 : Int)].length + v27.length) 1) <|
    m_spec_l01Dec_j2 n ([(45 : Int)] ++ v27)
  else
    m_spec_l01Dec_j2 n v27
def m_spec_l01Dec_j5 (n : Nat) (k48 : List Int → Int → Option Str) (v39 : List Int) (v40 : Int) (v52 : Int) : Option Str :=
  grd (room ([(IntKind.wrap .u8 ((w64 ((48 : Int) + v52))))].length + v39.length) 1) <|
  k48 ([(IntKind.wrap .u8 ((w64 ((48 : Int) + v52))))] ++ v39) (w64 (v40.tdiv (10 : Int)))
def m_spec_l01Dec_j4 (n : Nat) (k48 : List Int → Int → Option Str) (v39 : List Int) (v40 : Int) : Option Str :=
  if (v40.tmod (10 : Int)) < (0 : Int) then
    m_spec_l01Dec_j5 n k48 v39 v40 (w64 (0 - (v40.tmod (10 : Int))))
  else
    m_spec_l01Dec_j5 n k48 v39 v40 (v40.tmod (10 : Int))
def m_spec_l01Dec_j6 (n : Nat) (n_ : Int) (k48 : List Int → Int → Option Str) (v39 : List Int) (v40 : Int) (v59 : Bool) : Option Str :=
  if v59 = true then
    m_spec_l01Dec_j4 n k48 v39 v40
  else
    m_spec_l01Dec_j1 n n_ v39
def m_spec_l01Dec_l3 (n : Nat) (n_ : Int) : Nat → List Int → Int → Option Str
  | 0, _, _ => none
  | m47 + 1, v39, v40 =>
    if (v39.length : Int) = (0 : Int) then
      m_spec_l01Dec_j6 n n_ (m_spec_l01Dec_l3 n n_ m47) v39 v40 true
    else
      m_spec_l01Dec_j6 n n_ (m_spec_l01Dec_l3 n n_ m47) v39 v40 (!(decide (v40 = (0 : Int))))
def m_spec_l01Dec (n : Nat) (n_ : Int) : Option Str :=
  m_spec_l01Dec_l3 n n_ n ([] : List Int) n_
theorem spec_l01Dec_ok_fr0 (fr : Bool) (n : Nat) (n_ : Int) {r : Str} (h : m_spec_l01Dec n n_ = some r) : ACall prog fr 57 [.d (.int .i64 n_)] [] (fun v o new => v = .d (.str (bstr r)) ∧ o = [] ∧ new = []) := by
  refine acall_of_aw hτ func57 rfl (by simp) (by simp) ?_
  unfold m_spec_l01Dec at h
  refine aw_seq ?_
  refine aw_region ?_
  refine awl_val hτ rfl rfl rfl ?_
  refine awl_nil ?_
  refine aw_seq ?_
  refine aw_region ?_
  refine awl_valH hτ rfl rfl rfl ?_
  refine awl_val hτ rfl rfl rfl ?_
  refine awl_nil ?_
  refine aw_seq ?_
  refine aw_region ?_
  refine awl_val hτ rfl rfl rfl ?_
  refine awl_val hτ rfl rfl rfl ?_
  refine awl_nil ?_
  refine aw_hk1 (ι := List Int) (fun v27 => St.of [(0, .d (.int .i64 n_)), (3, .row 0 v27.length 0 v27.length)] [.row 1 (v27.map eIntu8)] f57.ntmps 0) (fun v27 => m_spec_l01Dec_j1 n n_ v27 = some r) ?_ (fun hk34 => ?_)
  · rintro v27 h
    replace h : m_spec_l01Dec_j1 n n_ v27 = some r := h
    unfold m_spec_l01Dec_j1 at h
    refine aw_hk1 (ι := List Int) (fun v30 => St.of [(3, .row 0 v30.length 0 v30.length)] [.row 1 (v30.map eIntu8)] f57.ntmps 0) (fun v30 => m_spec_l01Dec_j2 n v30 = some r) ?_ (fun hk31 => ?_)
    · rintro v30 h
      replace h : m_spec_l01Dec_j2 n v30 = some r := h
      unfold m_spec_l01Dec_j2 at h
      refine aw_seq ?_
      refine aw_region ?_
      refine awl_val hτ rfl rfl rfl ?_
      refine awl_x rfl rfl (x_b2s hτ (f := eIntu8) (l := v30) rfl rfl rfl rfl rfl rfl rfl (fun _ => rfl) (slice_row v30 rfl rfl) ⟨len_map _, by omega⟩) ?_
      refine awl_val hτ rfl rfl rfl ?_
      refine awl_nil ?_
      refine aw_weak (weak_ofP [] (l := [(2, .d (.str (bstr (chars v30))))]) (objs := []) rfl (by simp) rfl (by repeat' first | exact trivial | refine ⟨?_, ?_⟩) ⟨rfl, trivial, trivial⟩) ?_
      refine aw_ret ?_
      have hr := Option.some.inj h
      subst hr
      exact ret_objs (.inr rfl) [] (objs' := []) (new := []) rfl (by simp) (by simp) rfl (by repeat' first | exact trivial | refine ⟨?_, ?_⟩) rfl rfl (by repeat' first | exact trivial | refine ⟨?_, ?_⟩) (fun _ => ⟨by simp [V.flat, V.flatA, V.flatC, D.flat], flat_nil⟩) ⟨rfl, rfl, rfl⟩
    · refine aw_seq ?_
      refine aw_seq ?_
      refine aw_region ?_
      refine awl_val hτ rfl rfl rfl ?_
      refine awl_val hτ rfl rfl rfl ?_
      refine awl_nil ?_
      refine aw_cond rfl (fun hc32 => ?_) (fun hc32 => ?_)
      · have h := if_t h hc32
        refine aw_region ?_
        refine awl_valH hτ rfl rfl rfl ?_
        refine awl_val hτ rfl rfl rfl ?_
        refine grd_elim h fun hg33 h => ?_
        refine awl_needH hτ rfl rfl (Eq.trans rfl (or_append (f := eIntu8) [(45 : Int)] v27 (row_all _ rfl))) ⟨⟨len_map _, by omega⟩, len_map _, rfl, rfl, (by rw [row_all _ rfl]; exact room_map (f := eIntu8) hg33), by decide, (by rw [row_all _ rfl]; exact map_lens (f := eIntu8) (fun _ => rfl) _)⟩ ?_
        refine awl_val hτ rfl rfl rfl ?_
        refine awl_nil ?_
        refine aw_weak (weak_ofP [1] (l := [(3, .row 0 (([(45 : Int)] ++ v27).length) 0 (([(45 : Int)] ++ v27).length))]) (objs := [.row 1 (([(45 : Int)] ++ v27).map eIntu8)]) rfl (by simp) rfl (by repeat' first | exact trivial | refine ⟨?_, ?_⟩) ⟨rfl, trivial, trivial⟩) ?_
        exact hk31 ([(45 : Int)] ++ v27) h
      · have h := if_f h hc32
        refine aw_skip ?_
        refine aw_weak (weak_ofP [0] (l := [(3, .row 0 v27.length 0 v27.length)]) (objs := [.row 1 (v27.map eIntu8)]) rfl (by simp) rfl (by repeat' first | exact trivial | refine ⟨?_, ?_⟩) ⟨rfl, trivial, trivial⟩) ?_
        exact hk31 v27 h
  · refine aw_seq ?_
    refine aw_block ?_
    refine aw_loop (ι := Nat × List Int × Int) (fun (m47, v39, v40) => St.of [(0, .d (.int .i64 n_)), (3, .row 0 v39.length 0 v39.length), (4, .d (.int .i64 v40))] [.row 1 (v39.map eIntu8)] f57.ntmps 0) (fun (m47, v39, v40) => m_spec_l01Dec_l3 n n_ m47 v39 v40 = some r) (fun x => x.1) (n, ([] : List Int), n_) h (weak_ofP [0] (l := [(0, .d (.int .i64 n_)), (3, .row 0 (([] : List Int).length) 0 (([] : List Int).length)), (4, .d (.int .i64 n_))]) (objs := [.row 1 (([] : List Int).map eIntu8)]) rfl (by simp) rfl (by repeat' first | exact trivial | refine ⟨?_, ?_⟩) ⟨rfl, trivial, rfl, trivial, rfl, trivial, trivial⟩) ?_
    rintro ⟨m47, v39, v40⟩ h
    replace h : m_spec_l01Dec_l3 n n_ m47 v39 v40 = some r := h
    rcases m47 with _ | m47
    · rw [m_spec_l01Dec_l3] at h; cases h
    rw [m_spec_l01Dec_l3] at h
    refine aw_hk1 (ι := Unit) (fun _ => St.of [(0, .d (.int .i64 n_)), (3, .row 0 v39.length 0 v39.length), (4, .d (.int .i64 v40))] [.row 1 (v39.map eIntu8)] f57.ntmps 0) (fun _ => m_spec_l01Dec_j4 n (m_spec_l01Dec_l3 n n_ m47) v39 v40 = some r) ?_ (fun hk56 => ?_)
    · rintro ⟨⟩ h
      replace h : m_spec_l01Dec_j4 n (m_spec_l01Dec_l3 n n_ m47) v39 v40 = some r := h
      unfold m_spec_l01Dec_j4 at h
      refine aw_block ?_
      refine aw_seq ?_
      refine aw_region ?_
      refine awl_val hτ rfl rfl rfl ?_
      refine awl_need hτ rfl rfl rfl (by decide) ?_
      refine awl_val hτ rfl rfl rfl ?_
      refine awl_nil ?_
      refine aw_hk1 (ι := Int) (fun v52 => St.of [(0, .d (.int .i64 n_)), (3, .row 0 v39.length 0 v39.length), (4, .d (.int .i64 v40)), (5, .d (.int .i64 v52))] [.row 1 (v39.map eIntu8)] f57.ntmps 0) (fun v52 => m_spec_l01Dec_j5 n (m_spec_l01Dec_l3 n n_ m47) v39 v40 v52 = some r) ?_ (fun hk54 => ?_)
      · rintro v52 h
        replace h : m_spec_l01Dec_j5 n (m_spec_l01Dec_l3 n n_ m47) v39 v40 v52 = some r := h
        unfold m_spec_l01Dec_j5 at h
        refine aw_seq ?_
        refine aw_region ?_
        refine awl_val hτ rfl rfl rfl ?_
        refine awl_val hτ rfl rfl rfl ?_
        refine awl_val hτ rfl rfl rfl ?_
        refine awl_valH hτ rfl rfl rfl ?_
        refine awl_val hτ rfl rfl rfl ?_
        refine grd_elim h fun hg53 h => ?_
        refine awl_needH hτ rfl rfl (Eq.trans rfl (or_append (f := eIntu8) [(IntKind.wrap .u8 ((w64 ((48 : Int) + v52))))] v39 (row_all _ rfl))) ⟨⟨len_map _, by omega⟩, len_map _, rfl, rfl, (by rw [row_all _ rfl]; exact room_map (f := eIntu8) hg53), by decide, (by rw [row_all _ rfl]; exact map_lens (f := eIntu8) (fun _ => rfl) _)⟩ ?_
        refine awl_val hτ rfl rfl rfl ?_
        refine awl_nil ?_
        refine aw_weak (weak_ofP [1] (l := [(0, .d (.int .i64 n_)), (3, .row 0 (([(IntKind.wrap .u8 ((w64 ((48 : Int) + v52))))] ++ v39).length) 0 (([(IntKind.wrap .u8 ((w64 ((48 : Int) + v52))))] ++ v39).length)), (4, .d (.int .i64 v40))]) (objs := [.row 1 (([(IntKind.wrap .u8 ((w64 ((48 : Int) + v52))))] ++ v39).map eIntu8)]) rfl (by simp) rfl (by repeat' first | exact trivial | refine ⟨?_, ?_⟩) ⟨rfl, trivial, rfl, trivial, rfl, trivial, trivial⟩) ?_
        refine aw_region ?_
        refine awl_val hτ rfl rfl rfl ?_
        refine awl_need hτ rfl rfl rfl (by decide) ?_
        refine awl_val hτ rfl rfl rfl ?_
        refine awl_nil ?_
        exact ⟨(m47, ([(IntKind.wrap .u8 ((w64 ((48 : Int) + v52))))] ++ v39), (w64 (v40.tdiv (10 : Int)))), h, Nat.lt_succ_self m47, (weak_ofP [0] (l := [(0, .d (.int .i64 n_)), (3, .row 0 (([(IntKind.wrap .u8 ((w64 ((48 : Int) + v52))))] ++ v39).length) 0 (([(IntKind.wrap .u8 ((w64 ((48 : Int) + v52))))] ++ v39).length)), (4, .d (.int .i64 (w64 (v40.tdiv (10 : Int)))))]) (objs := [.row 1 (([(IntKind.wrap .u8 ((w64 ((48 : Int) + v52))))] ++ v39).map eIntu8)]) rfl (by simp) rfl (by repeat' first | exact trivial | refine ⟨?_, ?_⟩) ⟨rfl, trivial, rfl, trivial, rfl, trivial, trivial⟩)⟩
      · refine aw_seq ?_
        refine aw_seq ?_
        refine aw_region ?_
        refine awl_val hτ rfl rfl rfl ?_
        refine awl_val hτ rfl rfl rfl ?_
        refine awl_nil ?_
        refine aw_cond rfl (fun hc55 => ?_) (fun hc55 => ?_)
        · have h := if_t h hc55
          refine aw_region ?_
          refine awl_val hτ rfl rfl rfl ?_
          refine awl_val hτ rfl rfl rfl ?_
          refine awl_val hτ rfl rfl rfl ?_
          refine awl_nil ?_
          refine aw_weak (weak_ofP [0] (l := [(0, .d (.int .i64 n_)), (3, .row 0 v39.length 0 v39.length), (4, .d (.int .i64 v40)), (5, .d (.int .i64 (w64 (0 - (v40.tmod (10 : Int))))))]) (objs := [.row 1 (v39.map eIntu8)]) rfl (by simp) rfl (by repeat' first | exact trivial | refine ⟨?_, ?_⟩) ⟨rfl, trivial, rfl, trivial, rfl, trivial, rfl, trivial, trivial⟩) ?_
          exact hk54 (w64 (0 - (v40.tmod (10 : Int)))) h
        · have h := if_f h hc55
          refine aw_skip ?_
          refine aw_weak (weak_ofP [0] (l := [(0, .d (.int .i64 n_)), (3, .row 0 v39.length 0 v39.length), (4, .d (.int .i64 v40)), (5, .d (.int .i64 (v40.tmod (10 : Int))))]) (objs := [.row 1 (v39.map eIntu8)]) rfl (by simp) rfl (by repeat' first | exact trivial | refine ⟨?_, ?_⟩) ⟨rfl, trivial, rfl, trivial, rfl, trivial, rfl, trivial, trivial⟩) ?_
          exact hk54 (v40.tmod (10 : Int)) h
    · refine aw_seq ?_
      refine aw_hk1 (ι := Bool) (fun v59 => St.of [(0, .d (.int .i64 n_)), (3, .row 0 v39.length 0 v39.length), (4, .d (.int .i64 v40)), (14, .d (.bool v59))] [.row 1 (v39.map eIntu8)] f57.ntmps 0) (fun v59 => m_spec_l01Dec_j6 n n_ (m_spec_l01Dec_l3 n n_ m47) v39 v40 v59 = some r) ?_ (fun hk61 => ?_)
      · rintro v59 h
        replace h : m_spec_l01Dec_j6 n n_ (m_spec_l01Dec_l3 n n_ m47) v39 v40 v59 = some r := h
        unfold m_spec_l01Dec_j6 at h
        refine aw_cond rfl (fun hc60 => ?_) (fun hc60 => ?_)
        · have h := if_bt h hc60
          refine aw_skip ?_
          refine aw_weak (weak_ofP [0] (l := [(0, .d (.int .i64 n_)), (3, .row 0 v39.length 0 v39.length), (4, .d (.int .i64 v40))]) (objs := [.row 1 (v39.map eIntu8)]) rfl (by simp) rfl (by repeat' first | exact trivial | refine ⟨?_, ?_⟩) ⟨rfl, trivial, rfl, trivial, rfl, trivial, trivial⟩) ?_
          exact hk56 () h
        · have h := if_bf h hc60
          refine aw_exit ?_
          refine aw_weak (weak_ofP [0] (l := [(0, .d (.int .i64 n_)), (3, .row 0 v39.length 0 v39.length)]) (objs := [.row 1 (v39.map eIntu8)]) rfl (by simp) rfl (by repeat' first | exact trivial | refine ⟨?_, ?_⟩) ⟨rfl, trivial, rfl, trivial, trivial⟩) ?_
          exact hk34 v39 h
      · refine aw_seq ?_
        refine aw_region ?_
        refine awl_val hτ rfl rfl rfl ?_
        refine awl_need hτ rfl rfl rfl (len_map _) ?_
        refine awl_val hτ (v := .d (.bool (decide ((v39.length : Int) = (0 : Int))))) rfl rfl (or_ieq _ _) ?_
        refine awl_val hτ rfl rfl rfl ?_
        refine awl_split 11 rfl (fun hb62 => ?_) (fun hb62 => ?_)
        · have h := if_t h hb62
          refine awl_skip rfl rfl ?_
          refine awl_skip rfl rfl ?_
          refine awl_val hτ rfl rfl rfl ?_
          refine awl_nil ?_
          refine aw_weak (weak_ofP [0] (l := [(0, .d (.int .i64 n_)), (3, .row 0 v39.length 0 v39.length), (4, .d (.int .i64 v40)), (14, .d (.bool true))]) (objs := [.row 1 (v39.map eIntu8)]) rfl (by simp) rfl (by repeat' first | exact trivial | refine ⟨?_, ?_⟩) ⟨rfl, trivial, rfl, trivial, rfl, trivial, rfl, trivial, trivial⟩) ?_
          exact hk61 true h
        · have h := if_f h hb62
          refine awl_val hτ rfl rfl rfl ?_
          refine awl_val hτ (v := .d (.bool (!(decide (v40 = (0 : Int)))))) rfl rfl (or_ine _ _) ?_
          refine awl_val hτ rfl rfl rfl ?_
          refine awl_nil ?_
          refine aw_weak (weak_ofP [0] (l := [(0, .d (.int .i64 n_)), (3, .row 0 v39.length 0 v39.length), (4, .d (.int .i64 v40)), (14, .d (.bool (!(decide (v40 = (0 : Int))))))]) (objs := [.row 1 (v39.map eIntu8)]) rfl (by simp) rfl (by repeat' first | exact trivial | refine ⟨?_, ?_⟩) ⟨rfl, trivial, rfl, trivial, rfl, trivial, rfl, trivial, trivial⟩) ?_
          exact hk61 (!(decide (v40 = (0 : Int)))) h
theorem spec_l01Dec_ok (n : Nat) (n_ : Int) {r : Str} (h : m_spec_l01Dec n n_ = some r) : ACall prog false 57 [.d (.int .i64 n_)] [] (fun v o new => v = .d (.str (bstr r)) ∧ o = [] ∧ new = []) := spec_l01Dec_ok_fr0 false n n_ h
theorem spec_l01Dec_ok_fr (n : Nat) (n_ : Int) {r : Str} (h : m_spec_l01Dec n n_ = some r) : ACall prog true 57 [.d (.int .i64 n_)] [] (fun v o new => v = .d (.str (bstr r)) ∧ o = [] ∧ new = []) := spec_l01Dec_ok_fr0 true n n_ h

def m_spec_l11Journal_l1 (n : Nat) (lines_ : List Str) : Nat → Str → Int → Int → Option Str
  | 0, _, _, _ => none
  | m41 + 1, v28, v29, v30 =>
    if v30 < (lines_.length : Int) then
      (getI lines_ v30).bind fun x44 =>
      (m_spec_l01Check n v29 x44).bind fun x45 =>
      (m_spec_l01Dec n x45).bind fun x46 =>
      grd (x46.length + ([32] : Str).length ≤ 9223372036854775807) <|
      grd ((x46 ++ ([32] : Str)).length + x44.length ≤ 9223372036854775807) <|
      grd (((x46 ++ ([32] : Str)) ++ x44).length + ([10] : Str).length ≤ 9223372036854775807) <|
      grd (v28.length + (((x46 ++ ([32] : Str)) ++ x44) ++ ([10] : Str)).length ≤ 9223372036854775807) <|
      (m_spec_l11Journal_l1 n lines_ m41) (v28 ++ (((x46 ++ ([32] : Str)) ++ x44) ++ ([10] : Str))) x45 (w64 (v30 + (1 : Int)))
    else
      some v28
def m_spec_l11Journal (n : Nat) (lines_ : List Str) : Option Str :=
  m_spec_l11Journal_l1 n lines_ n ([] : Str) (0 : Int) (0 : Int)
theorem spec_l11Journal_ok_fr0 (fr : Bool) (n : Nat) (lines_ : List Str) {r : Str} (h : m_spec_l11Journal n lines_ = some r) : ACall prog fr 44 [.d (.sl false (lines_.map eStr))] [] (fun v o new => v = .d (.str (bstr r)) ∧ o = [] ∧ new = []) := by
  refine acall_of_aw hτ func44 rfl (by simp) (by simp) ?_
  unfold m_spec_l11Journal at h
  refine aw_seq ?_
  refine aw_region ?_
  refine awl_val hτ rfl rfl rfl ?_
  refine awl_nil ?_
  refine aw_seq ?_
  refine aw_region ?_
  refine awl_val hτ rfl rfl rfl ?_
  refine awl_nil ?_
  refine aw_seq ?_
  refine aw_region ?_
  refine awl_val hτ rfl rfl rfl ?_
  refine awl_nil ?_
  refine aw_seq ?_
  refine aw_seq ?_
  refine aw_region ?_
  refine awl_val hτ rfl rfl rfl ?_
  refine awl_nil ?_
  refine aw_block ?_
  refine aw_loop (ι := Nat × Str × Int × Int) (fun (m41, v28, v29, v30) => St.of [(0, .d (.sl false (lines_.map eStr))), (3, .d (.str (bstr v28))), (4, .d (.int .i64 v29)), (5, .d (.int .i64 v30))] [] f44.ntmps 0) (fun (m41, v28, v29, v30) => m_spec_l11Journal_l1 n lines_ m41 v28 v29 v30 = some r) (fun x => x.1) (n, ([] : Str), (0 : Int), (0 : Int)) h (weak_ofP [] (l := [(0, .d (.sl false (lines_.map eStr))), (3, .d (.str (bstr ([] : Str)))), (4, .d (.int .i64 (0 : Int))), (5, .d (.int .i64 (0 : Int)))]) (objs := []) rfl (by simp) rfl (by repeat' first | exact trivial | refine ⟨?_, ?_⟩) ⟨rfl, trivial, rfl, trivial, rfl, trivial, rfl, trivial, trivial⟩) ?_
  rintro ⟨m41, v28, v29, v30⟩ h
  replace h : m_spec_l11Journal_l1 n lines_ m41 v28 v29 v30 = some r := h
  rcases m41 with _ | m41
  · rw [m_spec_l11Journal_l1] at h; cases h
  rw [m_spec_l11Journal_l1] at h
  refine aw_seq ?_
  refine aw_seq ?_
  refine aw_region ?_
  refine awl_val hτ rfl rfl rfl ?_
  refine awl_val hτ rfl rfl rfl ?_
  refine awl_val hτ (v := .d (.int .i64 (lines_.length : Int))) rfl rfl (Eq.trans rfl (or_len (f := eStr) lines_)) ?_
  refine awl_val hτ rfl rfl rfl ?_
  refine awl_nil ?_
  refine aw_cond rfl (fun hc43 => ?_) (fun hc43 => ?_)
  · have h := if_t h hc43
    refine aw_skip ?_
    refine aw_seq ?_
    refine aw_block ?_
    refine aw_seq ?_
    refine aw_region ?_
    refine awl_val hτ rfl rfl rfl ?_
    refine awl_val hτ rfl rfl rfl ?_
    refine awl_val hτ rfl rfl rfl ?_
    refine bnd_elim h fun x44 hx44 h => ?_
    refine awl_elem hτ rfl rfl rfl (getI_some hx44).1 (map_getI hx44) rfl ?_
    refine awl_val hτ rfl rfl rfl ?_
    refine bnd_elim h fun x45 hx45 h => ?_
    refine awl_callP hτ false [] rfl rfl rfl (enterOk func56 rfl rfl) rfl rfl (by simp) ⟨trivial, trivial, trivial⟩ (by repeat' first | exact trivial | refine ⟨?_, ?_⟩) (spec_l01Check_ok n v29 x44 hx45) ?_
    rintro r0 o0 n0 ⟨rfl, rfl, rfl⟩ -
    refine awl_val hτ rfl rfl rfl ?_
    refine awl_nil ?_
    refine aw_weak (weak_ofP [] (l := [(0, .d (.sl false (lines_.map eStr))), (3, .d (.str (bstr v28))), (4, .d (.int .i64 x45)), (5, .d (.int .i64 v30))]) (objs := []) rfl (by simp) rfl (by repeat' first | exact trivial | refine ⟨?_, ?_⟩) ⟨rfl, trivial, rfl, trivial, rfl, trivial, rfl, trivial, trivial⟩) ?_
    refine any_start ?_
    refine any_val hτ [] 0 rfl rfl rfl rfl rfl ?_
    refine any_val hτ [] 1 rfl rfl rfl rfl rfl ?_
    refine any_val hτ [] 4 rfl rfl rfl rfl rfl ?_
    refine any_val hτ [] 5 rfl rfl rfl rfl rfl ?_
    refine any_elem hτ [] 6 rfl rfl rfl rfl rfl (getI_some hx44).1 (map_getI hx44) rfl ?_
    refine any_val hτ [] 7 rfl rfl rfl rfl rfl ?_
    refine bnd_elim h fun x46 hx46 h => ?_
    refine any_callP hτ false [] [] 2 rfl rfl rfl rfl (enterOk func57 rfl rfl) rfl rfl (by simp) ⟨trivial, trivial⟩ (by repeat' first | exact trivial | refine ⟨?_, ?_⟩) (spec_l01Dec_ok n x45 hx46) trivial ?_
    refine grd_elim h fun hg47 h => ?_
    refine any_need hτ (v := .d (.str (bstr (x46 ++ ([32] : Str))))) [] 3 rfl rfl rfl rfl (Eq.trans rfl (or_cat _ _)) hg47 ?_
    refine grd_elim h fun hg48 h => ?_
    refine any_need hτ (v := .d (.str (bstr ((x46 ++ ([32] : Str)) ++ x44)))) [] 8 rfl rfl rfl rfl (Eq.trans rfl (or_cat _ _)) hg48 ?_
    refine grd_elim h fun hg49 h => ?_
    refine any_need hτ (v := .d (.str (bstr (((x46 ++ ([32] : Str)) ++ x44) ++ ([10] : Str))))) [] 9 rfl rfl rfl rfl (Eq.trans rfl (or_cat _ _)) hg49 ?_
    refine grd_elim h fun hg50 h => ?_
    refine any_need hτ (v := .d (.str (bstr (v28 ++ (((x46 ++ ([32] : Str)) ++ x44) ++ ([10] : Str)))))) [] 10 rfl rfl rfl rfl (Eq.trans rfl (or_cat _ _)) hg50 ?_
    refine any_val hτ [] 11 rfl rfl rfl rfl rfl ?_
    refine any_done mixed (by kernel_rfl) ?_
    refine aw_weak (weak_ofP [] (l := [(0, .d (.sl false (lines_.map eStr))), (3, .d (.str (bstr (v28 ++ (((x46 ++ ([32] : Str)) ++ x44) ++ ([10] : Str)))))), (4, .d (.int .i64 x45)), (5, .d (.int .i64 v30))]) (objs := []) rfl (by simp) rfl (by repeat' first | exact trivial | refine ⟨?_, ?_⟩) ⟨rfl, trivial, rfl, trivial, rfl, trivial, rfl, trivial, trivial⟩) ?_
    refine aw_region ?_
    refine awl_val hτ rfl rfl rfl ?_
    refine awl_val hτ rfl rfl rfl ?_
    refine awl_val hτ rfl rfl rfl ?_
    refine awl_nil ?_
    exact ⟨(m41, (v28 ++ (((x46 ++ ([32] : Str)) ++ x44) ++ ([10] : Str))), x45, (w64 (v30 + (1 : Int)))), h, Nat.lt_succ_self m41, (weak_ofP [] (l := [(0, .d (.sl false (lines_.map eStr))), (3, .d (.str (bstr (v28 ++ (((x46 ++ ([32] : Str)) ++ x44) ++ ([10] : Str)))))), (4, .d (.int .i64 x45)), (5, .d (.int .i64 (w64 (v30 + (1 : Int)))))]) (objs := []) rfl (by simp) rfl (by repeat' first | exact trivial | refine ⟨?_, ?_⟩) ⟨rfl, trivial, rfl, trivial, rfl, trivial, rfl, trivial, trivial⟩)⟩
  · have h := if_f h hc43
    refine aw_exit ?_
    refine aw_seq ?_
    refine aw_region ?_
    refine awl_val hτ rfl rfl rfl ?_
    refine awl_val hτ rfl rfl rfl ?_
    refine awl_nil ?_
    refine aw_weak (weak_ofP [] (l := [(2, .d (.str (bstr v28)))]) (objs := []) rfl (by simp) rfl (by repeat' first | exact trivial | refine ⟨?_, ?_⟩) ⟨rfl, trivial, trivial⟩) ?_
    refine aw_ret ?_
    have hr := Option.some.inj h
    subst hr
    exact ret_objs (.inr rfl) [] (objs' := []) (new := []) rfl (by simp) (by simp) rfl (by repeat' first | exact trivial | refine ⟨?_, ?_⟩) rfl rfl (by repeat' first | exact trivial | refine ⟨?_, ?_⟩) (fun _ => ⟨by simp [V.flat, V.flatA, V.flatC, D.flat], flat_nil⟩) ⟨rfl, rfl, rfl⟩
theorem spec_l11Journal_ok (n : Nat) (lines_ : List Str) {r : Str} (h : m_spec_l11Journal n lines_ = some r) : ACall prog false 44 [.d (.sl false (lines_.map eStr))] [] (fun v o new => v = .d (.str (bstr r)) ∧ o = [] ∧ new = []) := spec_l11Journal_ok_fr0 false n lines_ h
theorem spec_l11Journal_ok_fr (n : Nat) (lines_ : List Str) {r : Str} (h : m_spec_l11Journal n lines_ = some r) : ACall prog true 44 [.d (.sl false (lines_.map eStr))] [] (fun v o new => v = .d (.str (bstr r)) ∧ o = [] ∧ new = []) := spec_l11Journal_ok_fr0 true n lines_ h

def m_spec_JournalOf_j1 (n : Nat) (lines_ : List Str) : Option (Str × Bool) :=
  (m_spec_l11Journal n lines_).bind fun x38 =>
  if (x38.length : Int) > (6000 : Int) then
    some (([] : Str), false)
  else
    some (x38, true)
def m_spec_JournalOf_j3 (n : Nat) (k60 : Int → Int → Option (Str × Bool)) (v49 : Int) (v69 : Int) : Option (Str × Bool) :=
  k60 v69 (w64 (v49 + (1 : Int)))
def m_spec_JournalOf_l4 (n : Nat) (lines_ : List Str) (k60 : Int → Int → Option (Str × Bool)) (v48 : Int) (v49 : Int) (x71 : Str) : Nat → Int → Option (Str × Bool)
  | 0, _ => none
  | m79 + 1, v75 =>
    (getI lines_ v49).bind fun x82 =>
    if v75 < (x82.length : Int) then
      (getI x82 v75).bind fun x85 =>
      if (x85.toNat : Int) = (10 : Int) then
        some (([] : Str), false)
      else
        (m_spec_JournalOf_l4 n lines_ k60 v48 v49 x71 m79) (w64 (v75 + (1 : Int)))
    else
      m_spec_JournalOf_j3 n k60 v49 (w64 (v48 + (w64 ((x71.length : Int) + (3 : Int)))))
def m_spec_JournalOf_l2 (n : Nat) (lines_ : List Str) : Nat → Int → Int → Option (Str × Bool)
  | 0, _, _ => none
  | m59 + 1, v48, v49 =>
    if v49 < (lines_.length : Int) then
      (getI lines_ v49).bind fun x71 =>
      if (w64 (v48 + (w64 ((x71.length : Int) + (3 : Int))))) > (6000 : Int) then
        some (([] : Str), false)
      else
        m_spec_JournalOf_l4 n lines_ (m_spec_JournalOf_l2 n lines_ m59) v48 v49 x71 n (0 : Int)
    else
      m_spec_JournalOf_j1 n lines_
def m_spec_JournalOf (n : Nat) (lines_ : List Str) : Option (Str × Bool) :=
  m_spec_JournalOf_l2 n lines_ n (0 : Int) (0 : Int)
theorem spec_JournalOf_ok_fr0 (fr : Bool) (n : Nat) (lines_ : List Str) {r : Str × Bool} (h : m_spec_JournalOf n lines_ = some r) : ACall prog fr 19 [.d (.sl false (lines_.map eStr))] [] (fun v o new => v = .tup [.d (.str (bstr r.1)), .d (.bool r.2)] ∧ o = [] ∧ new = []) := by
  refine acall_of_aw hτ func19 rfl (by simp) (by simp) ?_
  unfold m_spec_JournalOf at h
  refine aw_seq ?_
  refine aw_region ?_
  refine awl_val hτ rfl rfl rfl ?_
  refine awl_val hτ rfl rfl rfl ?_
  refine awl_nil ?_
  refine aw_seq ?_
  refine aw_region ?_
  refine awl_val hτ rfl rfl rfl ?_
  refine awl_nil ?_
  refine aw_hk1 (ι := Unit) (fun _ => St.of [(0, .d (.sl false (lines_.map eStr)))] [] f19.ntmps 0) (fun _ => m_spec_JournalOf_j1 n lines_ = some r) ?_ (fun hk40 => ?_)
  · rintro ⟨⟩ h
    replace h : m_spec_JournalOf_j1 n lines_ = some r := h
    unfold m_spec_JournalOf_j1 at h
    refine aw_seq ?_
    refine aw_region ?_
    refine awl_val hτ rfl rfl rfl ?_
    refine bnd_elim h fun x38 hx38 h => ?_
    refine awl_callP hτ false [] rfl rfl rfl (enterOk func44 rfl rfl) rfl rfl (by simp) ⟨trivial, trivial⟩ (by repeat' first | exact trivial | refine ⟨?_, ?_⟩) (spec_l11Journal_ok n lines_ hx38) ?_
    rintro r0 o0 n0 ⟨rfl, rfl, rfl⟩ -
    refine awl_val hτ rfl rfl rfl ?_
    refine awl_nil ?_
    refine aw_seq ?_
    refine aw_seq ?_
    refine aw_region ?_
    refine awl_val hτ rfl rfl rfl ?_
    refine awl_val hτ rfl rfl rfl ?_
    refine awl_val hτ rfl rfl rfl ?_
    refine awl_nil ?_
    refine aw_weak (weak_ofP [] (l := [(7, .d (.str (bstr x38))), (44, .d (.bool (decide ((x38.length : Int) > (6000 : Int)))))]) (objs := []) rfl (by simp) rfl (by repeat' first | exact trivial | refine ⟨?_, ?_⟩) ⟨rfl, trivial, rfl, trivial, trivial⟩) ?_
    refine aw_cond rfl (fun hc39 => ?_) (fun hc39 => ?_)
    · have h := if_t h hc39
      refine aw_seq ?_
      refine aw_region ?_
      refine awl_val hτ rfl rfl rfl ?_
      refine awl_val hτ rfl rfl rfl ?_
      refine awl_nil ?_
      refine aw_weak (weak_ofP [] (l := [(2, .d (.str (bstr ([] : Str)))), (3, .d (.bool false))]) (objs := []) rfl (by simp) rfl (by repeat' first | exact trivial | refine ⟨?_, ?_⟩) ⟨rfl, trivial, rfl, trivial, trivial⟩) ?_
      refine aw_ret ?_
      have hr := Option.some.inj h
      subst hr
      exact ret_objs (.inr rfl) [] (objs' := []) (new := []) rfl (by simp) (by simp) rfl (by repeat' first | exact trivial | refine ⟨?_, ?_⟩) rfl rfl (by repeat' first | exact trivial | refine ⟨?_, ?_⟩) (fun _ => ⟨by simp [V.flat, V.flatA, V.flatC, D.flat], flat_nil⟩) ⟨rfl, rfl, rfl⟩
    · have h := if_f h hc39
      refine aw_skip ?_
      refine aw_seq ?_
      refine aw_region ?_
      refine awl_val hτ rfl rfl rfl ?_
      refine awl_val hτ rfl rfl rfl ?_
      refine awl_val hτ rfl rfl rfl ?_
      refine awl_nil ?_
      refine aw_weak (weak_ofP [] (l := [(2, .d (.str (bstr x38))), (3, .d (.bool true))]) (objs := []) rfl (by simp) rfl (by repeat' first | exact trivial | refine ⟨?_, ?_⟩) ⟨rfl, trivial, rfl, trivial, trivial⟩) ?_
      refine aw_ret ?_
      have hr := Option.some.inj h
      subst hr
      exact ret_objs (.inr rfl) [] (objs' := []) (new := []) rfl (by simp) (by simp) rfl (by repeat' first | exact trivial | refine ⟨?_, ?_⟩) rfl rfl (by repeat' first | exact trivial | refine ⟨?_, ?_⟩) (fun _ => ⟨by simp [V.flat, V.flatA, V.flatC, D.flat], flat_nil⟩) ⟨rfl, rfl, rfl⟩
  · refine aw_seq ?_
    refine aw_seq ?_
    refine aw_region ?_
    refine awl_val hτ rfl rfl rfl ?_
    refine awl_nil ?_
    refine aw_block ?_
    refine aw_loop (ι := Nat × Int × Int) (fun (m59, v48, v49) => St.of [(0, .d (.sl false (lines_.map eStr))), (4, .d (.int .i64 v48)), (5, .d (.int .i64 v49))] [] f19.ntmps 0) (fun (m59, v48, v49) => m_spec_JournalOf_l2 n lines_ m59 v48 v49 = some r) (fun x => x.1) (n, (0 : Int), (0 : Int)) h (weak_ofP [] (l := [(0, .d (.sl false (lines_.map eStr))), (4, .d (.int .i64 (0 : Int))), (5, .d (.int .i64 (0 : Int)))]) (objs := []) rfl (by simp) rfl (by repeat' first | exact trivial | refine ⟨?_, ?_⟩) ⟨rfl, trivial, rfl, trivial, rfl, trivial, trivial⟩) ?_
    rintro ⟨m59, v48, v49⟩ h
    replace h : m_spec_JournalOf_l2 n lines_ m59 v48 v49 = some r := h
    rcases m59 with _ | m59
    · rw [m_spec_JournalOf_l2] at h; cases h
    rw [m_spec_JournalOf_l2] at h
    refine aw_seq ?_
    refine aw_seq ?_
    refine aw_region ?_
    refine awl_val hτ rfl rfl rfl ?_
    refine awl_val hτ rfl rfl rfl ?_
    refine awl_val hτ (v := .d (.int .i64 (lines_.length : Int))) rfl rfl (Eq.trans rfl (or_len (f := eStr) lines_)) ?_
    refine awl_val hτ rfl rfl rfl ?_
    refine awl_nil ?_
    refine aw_cond rfl (fun hc61 => ?_) (fun hc61 => ?_)
    · have h := if_t h hc61
      refine aw_skip ?_
      refine aw_hk1 (ι := Int) (fun v69 => St.of [(0, .d (.sl false (lines_.map eStr))), (4, .d (.int .i64 v69)), (5, .d (.int .i64 v49))] [] f19.ntmps 0) (fun v69 => m_spec_JournalOf_j3 n (m_spec_JournalOf_l2 n lines_ m59) v49 v69 = some r) ?_ (fun hk70 => ?_)
      · rintro v69 h
        replace h : m_spec_JournalOf_j3 n (m_spec_JournalOf_l2 n lines_ m59) v49 v69 = some r := h
        unfold m_spec_JournalOf_j3 at h
        refine aw_region ?_
        refine awl_val hτ rfl rfl rfl ?_
        refine awl_val hτ rfl rfl rfl ?_
        refine awl_val hτ rfl rfl rfl ?_
        refine awl_nil ?_
        exact ⟨(m59, v69, (w64 (v49 + (1 : Int)))), h, Nat.lt_succ_self m59, (weak_ofP [] (l := [(0, .d (.sl false (lines_.map eStr))), (4, .d (.int .i64 v69)), (5, .d (.int .i64 (w64 (v49 + (1 : Int)))))]) (objs := []) rfl (by simp) rfl (by repeat' first | exact trivial | refine ⟨?_, ?_⟩) ⟨rfl, trivial, rfl, trivial, rfl, trivial, trivial⟩)⟩
      · refine aw_seq ?_
        refine aw_block ?_
        refine aw_seq ?_
        refine aw_region ?_
        refine awl_val hτ rfl rfl rfl ?_
        refine awl_val hτ rfl rfl rfl ?_
        refine awl_val hτ rfl rfl rfl ?_
        refine bnd_elim h fun x71 hx71 h => ?_
        refine awl_elem hτ rfl rfl rfl (getI_some hx71).1 (map_getI hx71) rfl ?_
        refine awl_val hτ rfl rfl rfl ?_
        refine awl_val hτ rfl rfl rfl ?_
        refine awl_val hτ rfl rfl rfl ?_
        refine awl_val hτ rfl rfl rfl ?_
        refine awl_weak (weak_ofP [] (l := [(0, .d (.sl false (lines_.map eStr))), (4, .d (.int .i64 v48)), (5, .d (.int .i64 v49)), (21, .d (.int .i64 (w64 (v48 + (w64 ((x71.length : Int) + (3 : Int)))))))]) (objs := []) rfl (by simp) rfl (by repeat' first | exact trivial | refine ⟨?_, ?_⟩) ⟨rfl, trivial, rfl, trivial, rfl, trivial, rfl, trivial, trivial⟩) ?_
        refine awl_val hτ rfl rfl rfl ?_
        refine awl_nil ?_
        refine aw_seq ?_
        refine aw_seq ?_
        refine aw_region ?_
        refine awl_val hτ rfl rfl rfl ?_
        refine awl_val hτ rfl rfl rfl ?_
        refine awl_nil ?_
        refine aw_cond rfl (fun hc72 => ?_) (fun hc72 => ?_)
        · have h := if_t h hc72
          refine aw_seq ?_
          refine aw_region ?_
          refine awl_val hτ rfl rfl rfl ?_
          refine awl_val hτ rfl rfl rfl ?_
          refine awl_nil ?_
          refine aw_weak (weak_ofP [] (l := [(2, .d (.str (bstr ([] : Str)))), (3, .d (.bool false))]) (objs := []) rfl (by simp) rfl (by repeat' first | exact trivial | refine ⟨?_, ?_⟩) ⟨rfl, trivial, rfl, trivial, trivial⟩) ?_
          refine aw_ret ?_
          have hr := Option.some.inj h
          subst hr
          exact ret_objs (.inr rfl) [] (objs' := []) (new := []) rfl (by simp) (by simp) rfl (by repeat' first | exact trivial | refine ⟨?_, ?_⟩) rfl rfl (by repeat' first | exact trivial | refine ⟨?_, ?_⟩) (fun _ => ⟨by simp [V.flat, V.flatA, V.flatC, D.flat], flat_nil⟩) ⟨rfl, rfl, rfl⟩
        · have h := if_f h hc72
          refine aw_skip ?_
          refine aw_seq ?_
          refine aw_region ?_
          refine awl_val hτ rfl rfl rfl ?_
          refine awl_nil ?_
          refine aw_block ?_
          refine aw_loop (ι := Nat × Int) (fun (m79, v75) => St.of [(0, .d (.sl false (lines_.map eStr))), (4, .d (.int .i64 (w64 (v48 + (w64 ((x71.length : Int) + (3 : Int))))))), (5, .d (.int .i64 v49)), (6, .d (.int .i64 v75))] [] f19.ntmps 0) (fun (m79, v75) => m_spec_JournalOf_l4 n lines_ (m_spec_JournalOf_l2 n lines_ m59) v48 v49 x71 m79 v75 = some r) (fun x => x.1) (n, (0 : Int)) h (weak_ofP [] (l := [(0, .d (.sl false (lines_.map eStr))), (4, .d (.int .i64 (w64 (v48 + (w64 ((x71.length : Int) + (3 : Int))))))), (5, .d (.int .i64 v49)), (6, .d (.int .i64 (0 : Int)))]) (objs := []) rfl (by simp) rfl (by repeat' first | exact trivial | refine ⟨?_, ?_⟩) ⟨rfl, trivial, rfl, trivial, rfl, trivial, rfl, trivial, trivial⟩) ?_
          rintro ⟨m79, v75⟩ h
          replace h : m_spec_JournalOf_l4 n lines_ (m_spec_JournalOf_l2 n lines_ m59) v48 v49 x71 m79 v75 = some r := h
          rcases m79 with _ | m79
          · rw [m_spec_JournalOf_l4] at h; cases h
          rw [m_spec_JournalOf_l4] at h
          refine aw_seq ?_
          refine aw_seq ?_
          refine aw_region ?_
          refine awl_val hτ rfl rfl rfl ?_
          refine awl_val hτ rfl rfl rfl ?_
          refine awl_val hτ rfl rfl rfl ?_
          refine bnd_elim h fun x82 hx82 h => ?_
          refine awl_elem hτ rfl rfl rfl (getI_some hx82).1 (map_getI hx82) rfl ?_
          refine awl_val hτ rfl rfl rfl ?_
          refine awl_val hτ rfl rfl rfl ?_
          refine awl_val hτ rfl rfl rfl ?_
          refine awl_nil ?_
          refine aw_weak (weak_ofP [] (l := [(0, .d (.sl false (lines_.map eStr))), (4, .d (.int .i64 (w64 (v48 + (w64 ((x71.length : Int) + (3 : Int))))))), (5, .d (.int .i64 v49)), (6, .d (.int .i64 v75)), (30, .d (.bool (decide (v75 < (x82.length : Int)))))]) (objs := []) rfl (by simp) rfl (by repeat' first | exact trivial | refine ⟨?_, ?_⟩) ⟨rfl, trivial, rfl, trivial, rfl, trivial, rfl, trivial, rfl, trivial, trivial⟩) ?_
          refine aw_cond rfl (fun hc83 => ?_) (fun hc83 => ?_)
          · have h := if_t h hc83
            refine aw_skip ?_
            refine aw_seq ?_
            refine aw_block ?_
            refine aw_seq ?_
            refine aw_region ?_
            refine awl_val hτ rfl rfl rfl ?_
            refine awl_val hτ rfl rfl rfl ?_
            refine awl_elem hτ rfl rfl rfl (getI_some hx82).1 (map_getI hx82) rfl ?_
            refine awl_val hτ rfl rfl rfl ?_
            refine awl_val hτ rfl rfl rfl ?_
            refine bnd_elim h fun x85 hx85 h => ?_
            refine awl_need hτ (v := .d (.int .u8 (x85.toNat : Int))) rfl rfl (Eq.trans rfl (or_sidx hx85)) (sidx_need hx85) ?_
            refine awl_val hτ (v := .d (.bool (decide ((x85.toNat : Int) = (10 : Int))))) rfl rfl (or_ieq _ _) ?_
            refine awl_nil ?_
            refine aw_weak (weak_ofP [] (l := [(0, .d (.sl false (lines_.map eStr))), (4, .d (.int .i64 (w64 (v48 + (w64 ((x71.length : Int) + (3 : Int))))))), (5, .d (.int .i64 v49)), (6, .d (.int .i64 v75)), (39, .d (.bool (decide ((x85.toNat : Int) = (10 : Int)))))]) (objs := []) rfl (by simp) rfl (by repeat' first | exact trivial | refine ⟨?_, ?_⟩) ⟨rfl, trivial, rfl, trivial, rfl, trivial, rfl, trivial, rfl, trivial, trivial⟩) ?_
            refine aw_cond rfl (fun hc86 => ?_) (fun hc86 => ?_)
            · have h := if_t h hc86
              refine aw_seq ?_
              refine aw_region ?_
              refine awl_val hτ rfl rfl rfl ?_
              refine awl_val hτ rfl rfl rfl ?_
              refine awl_nil ?_
              refine aw_weak (weak_ofP [] (l := [(2, .d (.str (bstr ([] : Str)))), (3, .d (.bool false))]) (objs := []) rfl (by simp) rfl (by repeat' first | exact trivial | refine ⟨?_, ?_⟩) ⟨rfl, trivial, rfl, trivial, trivial⟩) ?_
              refine aw_ret ?_
              have hr := Option.some.inj h
              subst hr
              exact ret_objs (.inr rfl) [] (objs' := []) (new := []) rfl (by simp) (by simp) rfl (by repeat' first | exact trivial | refine ⟨?_, ?_⟩) rfl rfl (by repeat' first | exact trivial | refine ⟨?_, ?_⟩) (fun _ => ⟨by simp [V.flat, V.flatA, V.flatC, D.flat], flat_nil⟩) ⟨rfl, rfl, rfl⟩
            · have h := if_f h hc86
              refine aw_skip ?_
              refine aw_region ?_
              refine awl_val hτ rfl rfl rfl ?_
              refine awl_val hτ rfl rfl rfl ?_
              refine awl_val hτ rfl rfl rfl ?_
              refine awl_nil ?_
              exact ⟨(m79, (w64 (v75 + (1 : Int)))), h, Nat.lt_succ_self m79, (weak_ofP [] (l := [(0, .d (.sl false (lines_.map eStr))), (4, .d (.int .i64 (w64 (v48 + (w64 ((x71.length : Int) + (3 : Int))))))), (5, .d (.int .i64 v49)), (6, .d (.int .i64 (w64 (v75 + (1 : Int)))))]) (objs := []) rfl (by simp) rfl (by repeat' first | exact trivial | refine ⟨?_, ?_⟩) ⟨rfl, trivial, rfl, trivial, rfl, trivial, rfl, trivial, trivial⟩)⟩
          · have h := if_f h hc83
            refine aw_exit ?_
            refine aw_weak (weak_ofP [] (l := [(0, .d (.sl false (lines_.map eStr))), (4, .d (.int .i64 (w64 (v48 + (w64 ((x71.length : Int) + (3 : Int))))))), (5, .d (.int .i64 v49))]) (objs := []) rfl (by simp) rfl (by repeat' first | exact trivial | refine ⟨?_, ?_⟩) ⟨rfl, trivial, rfl, trivial, rfl, trivial, trivial⟩) ?_
            exact hk70 (w64 (v48 + (w64 ((x71.length : Int) + (3 : Int))))) h
    · have h := if_f h hc61
      refine aw_exit ?_
      refine aw_weak (weak_ofP [] (l := [(0, .d (.sl false (lines_.map eStr)))]) (objs := []) rfl (by simp) rfl (by repeat' first | exact trivial | refine ⟨?_, ?_⟩) ⟨rfl, trivial, trivial⟩) ?_
      exact hk40 () h
theorem spec_JournalOf_ok (n : Nat) (lines_ : List Str) {r : Str × Bool} (h : m_spec_JournalOf n lines_ = some r) : ACall prog false 19 [.d (.sl false (lines_.map eStr))] [] (fun v o new => v = .tup [.d (.str (bstr r.1)), .d (.bool r.2)] ∧ o = [] ∧ new = []) := spec_JournalOf_ok_fr0 false n lines_ h
theorem spec_JournalOf_ok_fr (n : Nat) (lines_ : List Str) {r : Str × Bool} (h : m_spec_JournalOf n lines_ = some r) : ACall prog true 19 [.d (.sl false (lines_.map eStr))] [] (fun v o new => v = .tup [.d (.str (bstr r.1)), .d (.bool r.2)] ∧ o = [] ∧ new = []) := spec_JournalOf_ok_fr0 true n lines_ h

def m_stringslite_IndexByte (n : Nat) (s_ : Str) (c_ : Int) : Option Int :=
  some (idxB s_ c_)
theorem stringslite_IndexByte_ok_fr0 (fr : Bool) (n : Nat) (s_ : Str) (c_ : Int) {r : Int} (h : m_stringslite_IndexByte n s_ c_ = some r) : ACall prog fr 78 [.d (.str (bstr s_)), .d (.int .u8 c_)] [] (fun v o new => v = .d (.int .i64 r) ∧ o = [] ∧ new = []) := by
  refine acall_of_aw hτ func78 rfl (by simp) (by simp) ?_
  unfold m_stringslite_IndexByte at h
  refine aw_seq ?_
  refine aw_region ?_
  refine awl_val hτ rfl rfl rfl ?_
  refine awl_nil ?_
  refine aw_seq ?_
  refine aw_region ?_
  refine awl_val hτ rfl rfl rfl ?_
  refine awl_val hτ rfl rfl rfl ?_
  refine awl_ext hτ rfl rfl rfl ext90 ?_
  refine awl_val hτ rfl rfl rfl ?_
  refine awl_nil ?_
  refine aw_weak (weak_ofP [] (l := [(4, .d (.int .i64 (idxB s_ c_)))]) (objs := []) rfl (by simp) rfl (by repeat' first | exact trivial | refine ⟨?_, ?_⟩) ⟨rfl, trivial, trivial⟩) ?_
  refine aw_ret ?_
  have hr := Option.some.inj h
  subst hr
  exact ret_objs (.inr rfl) [] (objs' := []) (new := []) rfl (by simp) (by simp) rfl (by repeat' first | exact trivial | refine ⟨?_, ?_⟩) rfl rfl (by repeat' first | exact trivial | refine ⟨?_, ?_⟩) (fun _ => ⟨by simp [V.flat, V.flatA, V.flatC, D.flat], flat_nil⟩) ⟨rfl, rfl, rfl⟩
theorem stringslite_IndexByte_ok (n : Nat) (s_ : Str) (c_ : Int) {r : Int} (h : m_stringslite_IndexByte n s_ c_ = some r) : ACall prog false 78 [.d (.str (bstr s_)), .d (.int .u8 c_)] [] (fun v o new => v = .d (.int .i64 r) ∧ o = [] ∧ new = []) := stringslite_IndexByte_ok_fr0 false n s_ c_ h
theorem stringslite_IndexByte_ok_fr (n : Nat) (s_ : Str) (c_ : Int) {r : Int} (h : m_stringslite_IndexByte n s_ c_ = some r) : ACall prog true 78 [.d (.str (bstr s_)), .d (.int .u8 c_)] [] (fun v o new => v = .d (.int .i64 r) ∧ o = [] ∧ new = []) := stringslite_IndexByte_ok_fr0 true n s_ c_ h

def m_stringslite_Index_j1 (n : Nat) (s_ : Str) (substr_ : Str) (v11 : Bool) : Option Int :=
  if v11 = true then
    some (0 : Int)
  else
    if (substr_.length : Int) = (1 : Int) then
      (getI substr_ (0 : Int)).bind fun x14 =>
      (m_stringslite_IndexByte n s_ (x14.toNat : Int)).bind fun x15 =>
      some x15
    else
      if (substr_.length : Int) ≥ (s_.length : Int) then
        some (-1 : Int)
      else
        none
def m_stringslite_Index (n : Nat) (s_ : Str) (substr_ : Str) : Option Int :=
  if (substr_.length : Int) = (0 : Int) then
    m_stringslite_Index_j1 n s_ substr_ true
  else
    m_stringslite_Index_j1 n s_ substr_ (decide (substr_ = s_))
theorem stringslite_Index_ok_fr0 (fr : Bool) (n : Nat) (s_ : Str) (substr_ : Str) {r : Int} (h : m_stringslite_Index n s_ substr_ = some r) : ACall prog fr 87 [.d (.str (bstr s_)), .d (.str (bstr substr_))] [] (fun v o new => v = .d (.int .i64 r) ∧ o = [] ∧ new = []) := by
  refine acall_of_aw hτ func87 rfl (by simp) (by simp) ?_
  unfold m_stringslite_Index at h
  refine aw_seq ?_
  refine aw_region ?_
  refine awl_val hτ rfl rfl rfl ?_
  refine awl_nil ?_
  refine aw_seq ?_
  refine aw_region ?_
  refine awl_val hτ rfl rfl rfl ?_
  refine awl_val hτ rfl rfl rfl ?_
  refine awl_val hτ rfl rfl rfl ?_
  refine awl_nil ?_
  refine aw_seq ?_
  refine aw_block ?_
  refine aw_hk1 (ι := Bool) (fun v11 => St.of [(0, .d (.str (bstr s_))), (1, .d (.str (bstr substr_))), (5, .d (.int .i64 (substr_.length : Int))), (16, .d (.bool v11))] [] f87.ntmps 0) (fun v11 => m_stringslite_Index_j1 n s_ substr_ v11 = some r) ?_ (fun hk17 => ?_)
  · rintro v11 h
    replace h : m_stringslite_Index_j1 n s_ substr_ v11 = some r := h
    unfold m_stringslite_Index_j1 at h
    refine aw_cond rfl (fun hc12 => ?_) (fun hc12 => ?_)
    · have h := if_bt h hc12
      refine aw_seq ?_
      refine aw_region ?_
      refine awl_val hτ rfl rfl rfl ?_
      refine awl_nil ?_
      refine aw_weak (weak_ofP [] (l := [(4, .d (.int .i64 (0 : Int)))]) (objs := []) rfl (by simp) rfl (by repeat' first | exact trivial | refine ⟨?_, ?_⟩) ⟨rfl, trivial, trivial⟩) ?_
      refine aw_ret ?_
      have hr := Option.some.inj h
      subst hr
      exact ret_objs (.inr rfl) [] (objs' := []) (new := []) rfl (by simp) (by simp) rfl (by repeat' first | exact trivial | refine ⟨?_, ?_⟩) rfl rfl (by repeat' first | exact trivial | refine ⟨?_, ?_⟩) (fun _ => ⟨by simp [V.flat, V.flatA, V.flatC, D.flat], flat_nil⟩) ⟨rfl, rfl, rfl⟩
    · have h := if_bf h hc12
      refine aw_seq ?_
      refine aw_region ?_
      refine awl_val hτ rfl rfl rfl ?_
      refine awl_val hτ (v := .d (.bool (decide ((substr_.length : Int) = (1 : Int))))) rfl rfl (or_ieq _ _) ?_
      refine awl_val hτ rfl rfl rfl ?_
      refine awl_nil ?_
      refine aw_cond rfl (fun hc13 => ?_) (fun hc13 => ?_)
      · have h := if_t h hc13
        refine aw_seq ?_
        refine aw_region ?_
        refine awl_val hτ rfl rfl rfl ?_
        refine awl_val hτ rfl rfl rfl ?_
        refine bnd_elim h fun x14 hx14 h => ?_
        refine awl_need hτ (v := .d (.int .u8 (x14.toNat : Int))) rfl rfl (Eq.trans rfl (or_sidx hx14)) (sidx_need hx14) ?_
        refine bnd_elim h fun x15 hx15 h => ?_
        refine awl_callP hτ false [] rfl rfl rfl (enterOk func78 rfl rfl) rfl rfl (by simp) ⟨trivial, trivial, trivial⟩ (by repeat' first | exact trivial | refine ⟨?_, ?_⟩) (stringslite_IndexByte_ok n s_ (x14.toNat : Int) hx15) ?_
        rintro r0 o0 n0 ⟨rfl, rfl, rfl⟩ -
        refine awl_val hτ rfl rfl rfl ?_
        refine awl_nil ?_
        refine aw_weak (weak_ofP [] (l := [(4, .d (.int .i64 x15))]) (objs := []) rfl (by simp) rfl (by repeat' first | exact trivial | refine ⟨?_, ?_⟩) ⟨rfl, trivial, trivial⟩) ?_
        refine aw_ret ?_
        have hr := Option.some.inj h
        subst hr
        exact ret_objs (.inr rfl) [] (objs' := []) (new := []) rfl (by simp) (by simp) rfl (by repeat' first | exact trivial | refine ⟨?_, ?_⟩) rfl rfl (by repeat' first | exact trivial | refine ⟨?_, ?_⟩) (fun _ => ⟨by simp [V.flat, V.flatA, V.flatC, D.flat], flat_nil⟩) ⟨rfl, rfl, rfl⟩
      · have h := if_f h hc13
        refine aw_seq ?_
        refine aw_region ?_
        refine awl_val hτ rfl rfl rfl ?_
        refine awl_val hτ rfl rfl rfl ?_
        refine awl_val hτ rfl rfl rfl ?_
        refine awl_val hτ rfl rfl rfl ?_
        refine awl_val hτ rfl rfl rfl ?_
        refine awl_nil ?_
        refine aw_weak (weak_ofP [] (l := [(0, .d (.str (bstr s_))), (1, .d (.str (bstr substr_))), (5, .d (.int .i64 (substr_.length : Int))), (31, .d (.bool (decide ((substr_.length : Int) ≥ (s_.length : Int)))))]) (objs := []) rfl (by simp) rfl (by repeat' first | exact trivial | refine ⟨?_, ?_⟩) ⟨rfl, trivial, rfl, trivial, rfl, trivial, rfl, trivial, trivial⟩) ?_
        refine aw_cond rfl (fun hc16 => ?_) (fun hc16 => ?_)
        · have h := if_t h hc16
          refine aw_seq ?_
          refine aw_region ?_
          refine awl_val hτ rfl rfl rfl ?_
          refine awl_nil ?_
          refine aw_weak (weak_ofP [] (l := [(4, .d (.int .i64 (-1 : Int)))]) (objs := []) rfl (by simp) rfl (by repeat' first | exact trivial | refine ⟨?_, ?_⟩) ⟨rfl, trivial, trivial⟩) ?_
          refine aw_ret ?_
          have hr := Option.some.inj h
          subst hr
          exact ret_objs (.inr rfl) [] (objs' := []) (new := []) rfl (by simp) (by simp) rfl (by repeat' first | exact trivial | refine ⟨?_, ?_⟩) rfl rfl (by repeat' first | exact trivial | refine ⟨?_, ?_⟩) (fun _ => ⟨by simp [V.flat, V.flatA, V.flatC, D.flat], flat_nil⟩) ⟨rfl, rfl, rfl⟩
        · have h := if_f h hc16
          refine aw_seq ?_
          refine aw_region ?_
          refine awl_val hτ rfl rfl rfl ?_
          exact nomatch h
  · refine aw_seq ?_
    refine aw_region ?_
    refine awl_val hτ rfl rfl rfl ?_
    refine awl_val hτ (v := .d (.bool (decide ((substr_.length : Int) = (0 : Int))))) rfl rfl (or_ieq _ _) ?_
    refine awl_val hτ rfl rfl rfl ?_
    refine awl_split 19 rfl (fun hb18 => ?_) (fun hb18 => ?_)
    · have h := if_t h hb18
      refine awl_skip rfl rfl ?_
      refine awl_skip rfl rfl ?_
      refine awl_skip rfl rfl ?_
      refine awl_val hτ rfl rfl rfl ?_
      refine awl_val hτ rfl rfl rfl ?_
      refine awl_nil ?_
      refine aw_weak (weak_ofP [] (l := [(0, .d (.str (bstr s_))), (1, .d (.str (bstr substr_))), (5, .d (.int .i64 (substr_.length : Int))), (16, .d (.bool true))]) (objs := []) rfl (by simp) rfl (by repeat' first | exact trivial | refine ⟨?_, ?_⟩) ⟨rfl, trivial, rfl, trivial, rfl, trivial, rfl, trivial, trivial⟩) ?_
      exact hk17 true h
    · have h := if_f h hb18
      refine awl_val hτ rfl rfl rfl ?_
      refine awl_val hτ rfl rfl rfl ?_
      refine awl_val hτ (v := .d (.bool (decide (substr_ = s_)))) rfl rfl (or_seq _ _) ?_
      refine awl_val hτ rfl rfl rfl ?_
      refine awl_val hτ rfl rfl rfl ?_
      refine awl_nil ?_
      refine aw_weak (weak_ofP [] (l := [(0, .d (.str (bstr s_))), (1, .d (.str (bstr substr_))), (5, .d (.int .i64 (substr_.length : Int))), (16, .d (.bool (decide (substr_ = s_))))]) (objs := []) rfl (by simp) rfl (by repeat' first | exact trivial | refine ⟨?_, ?_⟩) ⟨rfl, trivial, rfl, trivial, rfl, trivial, rfl, trivial, trivial⟩) ?_
      exact hk17 (decide (substr_ = s_)) h
theorem stringslite_Index_ok (n : Nat) (s_ : Str) (substr_ : Str) {r : Int} (h : m_stringslite_Index n s_ substr_ = some r) : ACall prog false 87 [.d (.str (bstr s_)), .d (.str (bstr substr_))] [] (fun v o new => v = .d (.int .i64 r) ∧ o = [] ∧ new = []) := stringslite_Index_ok_fr0 false n s_ substr_ h
theorem stringslite_Index_ok_fr (n : Nat) (s_ : Str) (substr_ : Str) {r : Int} (h : m_stringslite_Index n s_ substr_ = some r) : ACall prog true 87 [.d (.str (bstr s_)), .d (.str (bstr substr_))] [] (fun v o new => v = .d (.int .i64 r) ∧ o = [] ∧ new = []) := stringslite_Index_ok_fr0 true n s_ substr_ h

def m_strings_Index (n : Nat) (s_ : Str) (substr_ : Str) : Option Int :=
  (m_stringslite_Index n s_ substr_).bind fun x2 =>
  some x2
theorem strings_Index_ok_fr0 (fr : Bool) (n : Nat) (s_ : Str) (substr_ : Str) {r : Int} (h : m_strings_Index n s_ substr_ = some r) : ACall prog fr 72 [.d (.str (bstr s_)), .d (.str (bstr substr_))] [] (fun v o new => v = .d (.int .i64 r) ∧ o = [] ∧ new = []) := by
  refine acall_of_aw hτ func72 rfl (by simp) (by simp) ?_
  unfold m_strings_Index at h
  refine aw_seq ?_
  refine aw_region ?_
  refine awl_val hτ rfl rfl rfl ?_
  refine awl_nil ?_
  refine aw_seq ?_
  refine aw_region ?_
  refine awl_val hτ rfl rfl rfl ?_
  refine awl_val hτ rfl rfl rfl ?_
  refine bnd_elim h fun x2 hx2 h => ?_
  refine awl_callP hτ false [] rfl rfl rfl (enterOk func87 rfl rfl) rfl rfl (by simp) ⟨trivial, trivial, trivial⟩ (by repeat' first | exact trivial | refine ⟨?_, ?_⟩) (stringslite_Index_ok n s_ substr_ hx2) ?_
  rintro r0 o0 n0 ⟨rfl, rfl, rfl⟩ -
  refine awl_val hτ rfl rfl rfl ?_
  refine awl_nil ?_
  refine aw_weak (weak_ofP [] (l := [(4, .d (.int .i64 x2))]) (objs := []) rfl (by simp) rfl (by repeat' first | exact trivial | refine ⟨?_, ?_⟩) ⟨rfl, trivial, trivial⟩) ?_
  refine aw_ret ?_
  have hr := Option.some.inj h
  subst hr
  exact ret_objs (.inr rfl) [] (objs' := []) (new := []) rfl (by simp) (by simp) rfl (by repeat' first | exact trivial | refine ⟨?_, ?_⟩) rfl rfl (by repeat' first | exact trivial | refine ⟨?_, ?_⟩) (fun _ => ⟨by simp [V.flat, V.flatA, V.flatC, D.flat], flat_nil⟩) ⟨rfl, rfl, rfl⟩
theorem strings_Index_ok (n : Nat) (s_ : Str) (substr_ : Str) {r : Int} (h : m_strings_Index n s_ substr_ = some r) : ACall prog false 72 [.d (.str (bstr s_)), .d (.str (bstr substr_))] [] (fun v o new => v = .d (.int .i64 r) ∧ o = [] ∧ new = []) := strings_Index_ok_fr0 false n s_ substr_ h
theorem strings_Index_ok_fr (n : Nat) (s_ : Str) (substr_ : Str) {r : Int} (h : m_strings_Index n s_ substr_ = some r) : ACall prog true 72 [.d (.str (bstr s_)), .d (.str (bstr substr_))] [] (fun v o new => v = .d (.int .i64 r) ∧ o = [] ∧ new = []) := strings_Index_ok_fr0 true n s_ substr_ h

def m_strings_Contains (n : Nat) (s_ : Str) (substr_ : Str) : Option Bool :=
  (m_strings_Index n s_ substr_).bind fun x2 =>
  some (decide (x2 ≥ (0 : Int)))
theorem strings_Contains_ok_fr0 (fr : Bool) (n : Nat) (s_ : Str) (substr_ : Str) {r : Bool} (h : m_strings_Contains n s_ substr_ = some r) : ACall prog fr 45 [.d (.str (bstr s_)), .d (.str (bstr substr_))] [] (fun v o new => v = .d (.bool r) ∧ o = [] ∧ new = []) := by
  refine acall_of_aw hτ func45 rfl (by simp) (by simp) ?_
  unfold m_strings_Contains at h
  refine aw_seq ?_
  refine aw_region ?_
  refine awl_val hτ rfl rfl rfl ?_
  refine awl_nil ?_
  refine aw_seq ?_
  refine aw_region ?_
  refine awl_val hτ rfl rfl rfl ?_
  refine awl_val hτ rfl rfl rfl ?_
  refine bnd_elim h fun x2 hx2 h => ?_
  refine awl_callP hτ false [] rfl rfl rfl (enterOk func72 rfl rfl) rfl rfl (by simp) ⟨trivial, trivial, trivial⟩ (by repeat' first | exact trivial | refine ⟨?_, ?_⟩) (strings_Index_ok n s_ substr_ hx2) ?_
  rintro r0 o0 n0 ⟨rfl, rfl, rfl⟩ -
  refine awl_val hτ rfl rfl rfl ?_
  refine awl_val hτ rfl rfl rfl ?_
  refine awl_nil ?_
  refine aw_weak (weak_ofP [] (l := [(4, .d (.bool (decide (x2 ≥ (0 : Int)))))]) (objs := []) rfl (by simp) rfl (by repeat' first | exact trivial | refine ⟨?_, ?_⟩) ⟨rfl, trivial, trivial⟩) ?_
  refine aw_ret ?_
  have hr := Option.some.inj h
  subst hr
  exact ret_objs (.inr rfl) [] (objs' := []) (new := []) rfl (by simp) (by simp) rfl (by repeat' first | exact trivial | refine ⟨?_, ?_⟩) rfl rfl (by repeat' first | exact trivial | refine ⟨?_, ?_⟩) (fun _ => ⟨by simp [V.flat, V.flatA, V.flatC, D.flat], flat_nil⟩) ⟨rfl, rfl, rfl⟩
theorem strings_Contains_ok (n : Nat) (s_ : Str) (substr_ : Str) {r : Bool} (h : m_strings_Contains n s_ substr_ = some r) : ACall prog false 45 [.d (.str (bstr s_)), .d (.str (bstr substr_))] [] (fun v o new => v = .d (.bool r) ∧ o = [] ∧ new = []) := strings_Contains_ok_fr0 false n s_ substr_ h
theorem strings_Contains_ok_fr (n : Nat) (s_ : Str) (substr_ : Str) {r : Bool} (h : m_strings_Contains n s_ substr_ = some r) : ACall prog true 45 [.d (.str (bstr s_)), .d (.str (bstr substr_))] [] (fun v o new => v = .d (.bool r) ∧ o = [] ∧ new = []) := strings_Contains_ok_fr0 true n s_ substr_ h

def m_impl_in (n : Nat) (n_ : Int) (low_ : Int) (high_ : Int) : Option Bool :=
  if n_ ≥ low_ then
    some (decide (n_ ≤ high_))
  else
    some false
theorem impl_in_ok_fr0 (fr : Bool) (n : Nat) (n_ : Int) (low_ : Int) (high_ : Int) {r : Bool} (h : m_impl_in n n_ low_ high_ = some r) : ACall prog fr 64 [.d (.int .i64 n_), .d (.int .i64 low_), .d (.int .i64 high_)] [] (fun v o new => v = .d (.bool r) ∧ o = [] ∧ new = []) := by
  refine acall_of_aw hτ func64 rfl (by simp) (by simp) ?_
  unfold m_impl_in at h
  refine aw_seq ?_
  refine aw_region ?_
  refine awl_val hτ rfl rfl rfl ?_
  refine awl_nil ?_
  refine aw_seq ?_
  refine aw_region ?_
  refine awl_val hτ rfl rfl rfl ?_
  refine awl_val hτ rfl rfl rfl ?_
  refine awl_val hτ rfl rfl rfl ?_
  refine awl_val hτ rfl rfl rfl ?_
  refine awl_split 10 rfl (fun hb3 => ?_) (fun hb3 => ?_)
  · have h := if_t h hb3
    refine awl_val hτ rfl rfl rfl ?_
    refine awl_val hτ rfl rfl rfl ?_
    refine awl_val hτ rfl rfl rfl ?_
    refine awl_val hτ rfl rfl rfl ?_
    refine awl_val hτ rfl rfl rfl ?_
    refine awl_nil ?_
    refine aw_weak (weak_ofP [] (l := [(6, .d (.bool (decide (n_ ≤ high_))))]) (objs := []) rfl (by simp) rfl (by repeat' first | exact trivial | refine ⟨?_, ?_⟩) ⟨rfl, trivial, trivial⟩) ?_
    refine aw_ret ?_
    have hr := Option.some.inj h
    subst hr
    exact ret_objs (.inr rfl) [] (objs' := []) (new := []) rfl (by simp) (by simp) rfl (by repeat' first | exact trivial | refine ⟨?_, ?_⟩) rfl rfl (by repeat' first | exact trivial | refine ⟨?_, ?_⟩) (fun _ => ⟨by simp [V.flat, V.flatA, V.flatC, D.flat], flat_nil⟩) ⟨rfl, rfl, rfl⟩
  · have h := if_f h hb3
    refine awl_skip rfl rfl ?_
    refine awl_skip rfl rfl ?_
    refine awl_skip rfl rfl ?_
    refine awl_val hτ rfl rfl rfl ?_
    refine awl_val hτ rfl rfl rfl ?_
    refine awl_nil ?_
    refine aw_weak (weak_ofP [] (l := [(6, .d (.bool false))]) (objs := []) rfl (by simp) rfl (by repeat' first | exact trivial | refine ⟨?_, ?_⟩) ⟨rfl, trivial, trivial⟩) ?_
    refine aw_ret ?_
    have hr := Option.some.inj h
    subst hr
    exact ret_objs (.inr rfl) [] (objs' := []) (new := []) rfl (by simp) (by simp) rfl (by repeat' first | exact trivial | refine ⟨?_, ?_⟩) rfl rfl (by repeat' first | exact trivial | refine ⟨?_, ?_⟩) (fun _ => ⟨by simp [V.flat, V.flatA, V.flatC, D.flat], flat_nil⟩) ⟨rfl, rfl, rfl⟩
theorem impl_in_ok (n : Nat) (n_ : Int) (low_ : Int) (high_ : Int) {r : Bool} (h : m_impl_in n n_ low_ high_ = some r) : ACall prog false 64 [.d (.int .i64 n_), .d (.int .i64 low_), .d (.int .i64 high_)] [] (fun v o new => v = .d (.bool r) ∧ o = [] ∧ new = []) := impl_in_ok_fr0 false n n_ low_ high_ h
theorem impl_in_ok_fr (n : Nat) (n_ : Int) (low_ : Int) (high_ : Int) {r : Bool} (h : m_impl_in n n_ low_ high_ = some r) : ACall prog true 64 [.d (.int .i64 n_), .d (.int .i64 low_), .d (.int .i64 high_)] [] (fun v o new => v = .d (.bool r) ∧ o = [] ∧ new = []) := impl_in_ok_fr0 true n n_ low_ high_ h

def m_impl_CheckOf_l1 (n : Nat) (s_ : Str) : Nat → Int → Int → Option (Int × Bool)
  | 0, _, _ => none
  | m17 + 1, v12, v13 =>
    if v13 < (s_.length : Int) then
      (getI s_ v13).bind fun x20 =>
      (m_impl_CheckOf_l1 n s_ m17) ((w64 ((w64 ((w64 ((691 : Int) * v12)) + (w64 ((x20.toNat : Int))))) + (43 : Int))).tmod (65003 : Int)) (w64 (v13 + (1 : Int)))
    else
      some (v12, true)
def m_impl_CheckOf (n : Nat) (start_ : Int) (s_ : Str) : Option (Int × Bool) :=
  (m_impl_in n start_ (0 : Int) (65002 : Int)).bind fun x9 =>
  if x9 = true then
    m_impl_CheckOf_l1 n s_ n start_ (0 : Int)
  else
    some ((0 : Int), false)
theorem impl_CheckOf_ok_fr0 (fr : Bool) (n : Nat) (start_ : Int) (s_ : Str) {r : Int × Bool} (h : m_impl_CheckOf n start_ s_ = some r) : ACall prog fr 47 [.d (.int .i64 start_), .d (.str (bstr s_))] [] (fun v o new => v = .tup [.d (.int .i64 r.1), .d (.bool r.2)] ∧ o = [] ∧ new = []) := by
  refine acall_of_aw hτ func47 rfl (by simp) (by simp) ?_
  unfold m_impl_CheckOf at h
  refine aw_seq ?_
  refine aw_region ?_
  refine awl_val hτ rfl rfl rfl ?_
  refine awl_val hτ rfl rfl rfl ?_
  refine awl_nil ?_
  refine aw_seq ?_
  refine aw_seq ?_
  refine aw_region ?_
  refine awl_val hτ rfl rfl rfl ?_
  refine bnd_elim h fun x9 hx9 h => ?_
  refine awl_callP hτ false [] rfl rfl rfl (enterOk func64 rfl rfl) rfl rfl (by simp) ⟨trivial, trivial, trivial, trivial⟩ (by repeat' first | exact trivial | refine ⟨?_, ?_⟩) (impl_in_ok n start_ (0 : Int) (65002 : Int) hx9) ?_
  rintro r0 o0 n0 ⟨rfl, rfl, rfl⟩ -
  refine awl_val hτ rfl rfl rfl ?_
  refine awl_nil ?_
  refine aw_cond rfl (fun hc10 => ?_) (fun hc10 => ?_)
  · have hc10 := not_t hc10
    have h := if_bf h hc10
    refine aw_seq ?_
    refine aw_region ?_
    refine awl_val hτ rfl rfl rfl ?_
    refine awl_val hτ rfl rfl rfl ?_
    refine awl_nil ?_
    refine aw_weak (weak_ofP [] (l := [(4, .d (.int .i64 (0 : Int))), (5, .d (.bool false))]) (objs := []) rfl (by simp) rfl (by repeat' first | exact trivial | refine ⟨?_, ?_⟩) ⟨rfl, trivial, rfl, trivial, trivial⟩) ?_
    refine aw_ret ?_
    have hr := Option.some.inj h
    subst hr
    exact ret_objs (.inr rfl) [] (objs' := []) (new := []) rfl (by simp) (by simp) rfl (by repeat' first | exact trivial | refine ⟨?_, ?_⟩) rfl rfl (by repeat' first | exact trivial | refine ⟨?_, ?_⟩) (fun _ => ⟨by simp [V.flat, V.flatA, V.flatC, D.flat], flat_nil⟩) ⟨rfl, rfl, rfl⟩
  · have hc10 := not_f hc10
    have h := if_bt h hc10
    refine aw_skip ?_
    refine aw_seq ?_
    refine aw_seq ?_
    refine aw_region ?_
    refine awl_val hτ rfl rfl rfl ?_
    refine awl_val hτ rfl rfl rfl ?_
    refine awl_val hτ rfl rfl rfl ?_
    refine awl_nil ?_
    refine aw_block ?_
    refine aw_loop (ι := Nat × Int × Int) (fun (m17, v12, v13) => St.of [(0, .d (.int .i64 v12)), (1, .d (.str (bstr s_))), (11, .d (.int .i64 (s_.length : Int))), (12, .d (.int .i64 v13))] [] f47.ntmps 0) (fun (m17, v12, v13) => m_impl_CheckOf_l1 n s_ m17 v12 v13 = some r) (fun x => x.1) (n, start_, (0 : Int)) h (weak_ofP [] (l := [(0, .d (.int .i64 start_)), (1, .d (.str (bstr s_))), (11, .d (.int .i64 (s_.length : Int))), (12, .d (.int .i64 (0 : Int)))]) (objs := []) rfl (by simp) rfl (by repeat' first | exact trivial | refine ⟨?_, ?_⟩) ⟨rfl, trivial, rfl, trivial, rfl, trivial, rfl, trivial, trivial⟩) ?_
    rintro ⟨m17, v12, v13⟩ h
    replace h : m_impl_CheckOf_l1 n s_ m17 v12 v13 = some r := h
    rcases m17 with _ | m17
    · rw [m_impl_CheckOf_l1] at h; cases h
    rw [m_impl_CheckOf_l1] at h
    refine aw_seq ?_
    refine aw_region ?_
    refine awl_val hτ rfl rfl rfl ?_
    refine awl_nil ?_
    refine aw_seq ?_
    refine aw_cond rfl (fun hc19 => ?_) (fun hc19 => ?_)
    · have h := if_t h hc19
      refine aw_skip ?_
      refine aw_seq ?_
      refine aw_block ?_
      refine aw_seq ?_
      refine aw_region ?_
      refine awl_val hτ rfl rfl rfl ?_
      refine awl_val hτ rfl rfl rfl ?_
      refine awl_nil ?_
      refine aw_region ?_
      refine awl_val hτ rfl rfl rfl ?_
      refine awl_val hτ rfl rfl rfl ?_
      refine awl_val hτ rfl rfl rfl ?_
      refine awl_val hτ rfl rfl rfl ?_
      refine bnd_elim h fun x20 hx20 h => ?_
      refine awl_need hτ (v := .d (.int .u8 (x20.toNat : Int))) rfl rfl (Eq.trans rfl (or_sidx hx20)) (sidx_need hx20) ?_
      refine awl_val hτ rfl rfl rfl ?_
      refine awl_val hτ rfl rfl rfl ?_
      refine awl_val hτ rfl rfl rfl ?_
      refine awl_need hτ rfl rfl rfl (by decide) ?_
      refine awl_weak (weak_ofP [] (l := [(0, .d (.int .i64 v12)), (1, .d (.str (bstr s_))), (11, .d (.int .i64 (s_.length : Int))), (12, .d (.int .i64 v13)), (23, .d (.int .i64 ((w64 ((w64 ((w64 ((691 : Int) * v12)) + (w64 ((x20.toNat : Int))))) + (43 : Int))).tmod (65003 : Int))))]) (objs := []) rfl (by simp) rfl (by repeat' first | exact trivial | refine ⟨?_, ?_⟩) ⟨rfl, trivial, rfl, trivial, rfl, trivial, rfl, trivial, rfl, trivial, trivial⟩) ?_
      refine awl_val hτ rfl rfl rfl ?_
      refine awl_nil ?_
      refine aw_region ?_
      refine awl_val hτ rfl rfl rfl ?_
      refine awl_val hτ rfl rfl rfl ?_
      refine awl_nil ?_
      exact ⟨(m17, ((w64 ((w64 ((w64 ((691 : Int) * v12)) + (w64 ((x20.toNat : Int))))) + (43 : Int))).tmod (65003 : Int)), (w64 (v13 + (1 : Int)))), h, Nat.lt_succ_self m17, (weak_ofP [] (l := [(0, .d (.int .i64 ((w64 ((w64 ((w64 ((691 : Int) * v12)) + (w64 ((x20.toNat : Int))))) + (43 : Int))).tmod (65003 : Int)))), (1, .d (.str (bstr s_))), (11, .d (.int .i64 (s_.length : Int))), (12, .d (.int .i64 (w64 (v13 + (1 : Int)))))]) (objs := []) rfl (by simp) rfl (by repeat' first | exact trivial | refine ⟨?_, ?_⟩) ⟨rfl, trivial, rfl, trivial, rfl, trivial, rfl, trivial, trivial⟩)⟩
    · have h := if_f h hc19
      refine aw_exit ?_
      refine aw_seq ?_
      refine aw_region ?_
      refine awl_val hτ rfl rfl rfl ?_
      refine awl_val hτ rfl rfl rfl ?_
      refine awl_val hτ rfl rfl rfl ?_
      refine awl_nil ?_
      refine aw_weak (weak_ofP [] (l := [(4, .d (.int .i64 v12)), (5, .d (.bool true))]) (objs := []) rfl (by simp) rfl (by repeat' first | exact trivial | refine ⟨?_, ?_⟩) ⟨rfl, trivial, rfl, trivial, trivial⟩) ?_
      refine aw_ret ?_
      have hr := Option.some.inj h
      subst hr
      exact ret_objs (.inr rfl) [] (objs' := []) (new := []) rfl (by simp) (by simp) rfl (by repeat' first | exact trivial | refine ⟨?_, ?_⟩) rfl rfl (by repeat' first | exact trivial | refine ⟨?_, ?_⟩) (fun _ => ⟨by simp [V.flat, V.flatA, V.flatC, D.flat], flat_nil⟩) ⟨rfl, rfl, rfl⟩
theorem impl_CheckOf_ok (n : Nat) (start_ : Int) (s_ : Str) {r : Int × Bool} (h : m_impl_CheckOf n start_ s_ = some r) : ACall prog false 47 [.d (.int .i64 start_), .d (.str (bstr s_))] [] (fun v o new => v = .tup [.d (.int .i64 r.1), .d (.bool r.2)] ∧ o = [] ∧ new = []) := impl_CheckOf_ok_fr0 false n start_ s_ h
theorem impl_CheckOf_ok_fr (n : Nat) (start_ : Int) (s_ : Str) {r : Int × Bool} (h : m_impl_CheckOf n start_ s_ = some r) : ACall prog true 47 [.d (.int .i64 start_), .d (.str (bstr s_))] [] (fun v o new => v = .tup [.d (.int .i64 r.1), .d (.bool r.2)] ∧ o = [] ∧ new = []) := impl_CheckOf_ok_fr0 true n start_ s_ h

def m_strconv_FormatInt (n : Nat) (x b : Int) : Option Str := dec10 x b
theorem strconv_FormatInt_ok (n : Nat) (x b : Int) {r : Str} (h : m_strconv_FormatInt n x b = some r) : ACall prog false 74 [.d (.int .i64 x), .d (.int .i64 b)] [] (fun v o new => v = .d (.str (bstr r)) ∧ o = [] ∧ new = []) := acall_quiet (dec_does h)
theorem strconv_FormatInt_ok_fr (n : Nat) (x b : Int) {r : Str} (h : m_strconv_FormatInt n x b = some r) : ACall prog true 74 [.d (.int .i64 x), .d (.int .i64 b)] [] (fun v o new => v = .d (.str (bstr r)) ∧ o = [] ∧ new = []) := acall_quiet (dec_does h)

def m_impl_Decimal (n : Nat) (n_ : Int) : Option Str :=
  (m_strconv_FormatInt n n_ (10 : Int)).bind fun x2 =>
  some x2
theorem impl_Decimal_ok_fr0 (fr : Bool) (n : Nat) (n_ : Int) {r : Str} (h : m_impl_Decimal n n_ = some r) : ACall prog fr 49 [.d (.int .i64 n_)] [] (fun v o new => v = .d (.str (bstr r)) ∧ o = [] ∧ new = []) := by
  refine acall_of_aw hτ func49 rfl (by simp) (by simp) ?_
  unfold m_impl_Decimal at h
  refine aw_seq ?_
  refine aw_region ?_
  refine awl_val hτ rfl rfl rfl ?_
  refine awl_nil ?_
  refine aw_seq ?_
  refine aw_region ?_
  refine awl_val hτ rfl rfl rfl ?_
  refine bnd_elim h fun x2 hx2 h => ?_
  refine awl_callP hτ false [] rfl rfl rfl (enterOk func74 rfl rfl) rfl rfl (by simp) ⟨trivial, trivial, trivial⟩ (by repeat' first | exact trivial | refine ⟨?_, ?_⟩) (strconv_FormatInt_ok n n_ (10 : Int) hx2) ?_
  rintro r0 o0 n0 ⟨rfl, rfl, rfl⟩ -
  refine awl_val hτ rfl rfl rfl ?_
  refine awl_nil ?_
  refine aw_weak (weak_ofP [] (l := [(2, .d (.str (bstr x2)))]) (objs := []) rfl (by simp) rfl (by repeat' first | exact trivial | refine ⟨?_, ?_⟩) ⟨rfl, trivial, trivial⟩) ?_
  refine aw_ret ?_
  have hr := Option.some.inj h
  subst hr
  exact ret_objs (.inr rfl) [] (objs' := []) (new := []) rfl (by simp) (by simp) rfl (by repeat' first | exact trivial | refine ⟨?_, ?_⟩) rfl rfl (by repeat' first | exact trivial | refine ⟨?_, ?_⟩) (fun _ => ⟨by simp [V.flat, V.flatA, V.flatC, D.flat], flat_nil⟩) ⟨rfl, rfl, rfl⟩
theorem impl_Decimal_ok (n : Nat) (n_ : Int) {r : Str} (h : m_impl_Decimal n n_ = some r) : ACall prog false 49 [.d (.int .i64 n_)] [] (fun v o new => v = .d (.str (bstr r)) ∧ o = [] ∧ new = []) := impl_Decimal_ok_fr0 false n n_ h
theorem impl_Decimal_ok_fr (n : Nat) (n_ : Int) {r : Str} (h : m_impl_Decimal n n_ = some r) : ACall prog true 49 [.d (.int .i64 n_)] [] (fun v o new => v = .d (.str (bstr r)) ∧ o = [] ∧ new = []) := impl_Decimal_ok_fr0 true n n_ h

def m_impl_JournalOf (n : Nat) (l : List Str) : Option (Str × Bool) := jrnM (fun s => m_strings_Contains n s [10]) (m_impl_CheckOf n) (m_impl_Decimal n) l 0 []
theorem impl_JournalOf_ok (n : Nat) (l : List Str) {r : Str × Bool} (h : m_impl_JournalOf n l = some r) : ACall prog false 21 [.d (.sl false (l.map eStr))] [] (fun v o new => v = .tup [.d (.str (bstr r.1)), .d (.bool r.2)] ∧ o = [] ∧ new = []) := jrn_does (fun s r h => strings_Contains_ok n s [10] h) (fun c s r h => impl_CheckOf_ok n c s h) (fun c r h => impl_Decimal_ok n c h) (fun _ => rfl) h
theorem impl_JournalOf_ok_fr (n : Nat) (l : List Str) {r : Str × Bool} (h : m_impl_JournalOf n l = some r) : ACall prog true 21 [.d (.sl false (l.map eStr))] [] (fun v o new => v = .tup [.d (.str (bstr r.1)), .d (.bool r.2)] ∧ o = [] ∧ new = []) := jrn_does (fun s r h => strings_Contains_ok n s [10] h) (fun c s r h => impl_CheckOf_ok n c s h) (fun c r h => impl_Decimal_ok n c h) (fun _ => rfl) h

def m_laws_eqStringS_l1 (n : Nat) (a_ : List Str) (b_ : List Str) : Nat → Int → Option Bool
  | 0, _ => none
  | m14 + 1, v10 =>
    if v10 < (a_.length : Int) then
      (getI a_ v10).bind fun x19 =>
      (getI b_ v10).bind fun x20 =>
      if x19 = x20 then
        (m_laws_eqStringS_l1 n a_ b_ m14) (w64 (v10 + (1 : Int)))
      else
        some false
    else
      some true
def m_laws_eqStringS (n : Nat) (a_ : List Str) (b_ : List Str) : Option Bool :=
  if (a_.length : Int) = (b_.length : Int) then
    m_laws_eqStringS_l1 n a_ b_ n (0 : Int)
  else
    some false
theorem laws_eqStringS_ok_fr0 (fr : Bool) (n : Nat) (a_ : List Str) (b_ : List Str) {r : Bool} (h : m_laws_eqStringS n a_ b_ = some r) : ACall prog fr 22 [.d (.sl false (a_.map eStr)), .d (.sl false (b_.map eStr))] [] (fun v o new => v = .d (.bool r) ∧ o = [] ∧ new = []) := by
  refine acall_of_aw hτ func22 rfl (by simp) (by simp) ?_
  unfold m_laws_eqStringS at h
  refine aw_seq ?_
  refine aw_region ?_
  refine awl_val hτ rfl rfl rfl ?_
  refine awl_nil ?_
  refine aw_seq ?_
  refine aw_seq ?_
  refine aw_region ?_
  refine awl_val hτ rfl rfl rfl ?_
  refine awl_val hτ (v := .d (.int .i64 (a_.length : Int))) rfl rfl (Eq.trans rfl (or_len (f := eStr) a_)) ?_
  refine awl_val hτ rfl rfl rfl ?_
  refine awl_val hτ (v := .d (.int .i64 (b_.length : Int))) rfl rfl (Eq.trans rfl (or_len (f := eStr) b_)) ?_
  refine awl_val hτ (v := .d (.bool (!(decide ((a_.length : Int) = (b_.length : Int)))))) rfl rfl (or_ine _ _) ?_
  refine awl_nil ?_
  refine aw_weak (weak_ofP [] (l := [(0, .d (.sl false (a_.map eStr))), (1, .d (.sl false (b_.map eStr))), (10, .d (.bool (!(decide ((a_.length : Int) = (b_.length : Int))))))]) (objs := []) rfl (by simp) rfl (by repeat' first | exact trivial | refine ⟨?_, ?_⟩) ⟨rfl, trivial, rfl, trivial, rfl, trivial, trivial⟩) ?_
  refine aw_cond rfl (fun hc7 => ?_) (fun hc7 => ?_)
  · have hc7 := not_t hc7
    have h := if_f h hc7
    refine aw_seq ?_
    refine aw_region ?_
    refine awl_val hτ rfl rfl rfl ?_
    refine awl_nil ?_
    refine aw_weak (weak_ofP [] (l := [(4, .d (.bool false))]) (objs := []) rfl (by simp) rfl (by repeat' first | exact trivial | refine ⟨?_, ?_⟩) ⟨rfl, trivial, trivial⟩) ?_
    refine aw_ret ?_
    have hr := Option.some.inj h
    subst hr
    exact ret_objs (.inr rfl) [] (objs' := []) (new := []) rfl (by simp) (by simp) rfl (by repeat' first | exact trivial | refine ⟨?_, ?_⟩) rfl rfl (by repeat' first | exact trivial | refine ⟨?_, ?_⟩) (fun _ => ⟨by simp [V.flat, V.flatA, V.flatC, D.flat], flat_nil⟩) ⟨rfl, rfl, rfl⟩
  · have hc7 := not_f hc7
    have h := if_t h hc7
    refine aw_skip ?_
    refine aw_seq ?_
    refine aw_seq ?_
    refine aw_region ?_
    refine awl_val hτ rfl rfl rfl ?_
    refine awl_nil ?_
    refine aw_block ?_
    refine aw_loop (ι := Nat × Int) (fun (m14, v10) => St.of [(0, .d (.sl false (a_.map eStr))), (1, .d (.sl false (b_.map eStr))), (5, .d (.int .i64 v10))] [] f22.ntmps 0) (fun (m14, v10) => m_laws_eqStringS_l1 n a_ b_ m14 v10 = some r) (fun x => x.1) (n, (0 : Int)) h (weak_ofP [] (l := [(0, .d (.sl false (a_.map eStr))), (1, .d (.sl false (b_.map eStr))), (5, .d (.int .i64 (0 : Int)))]) (objs := []) rfl (by simp) rfl (by repeat' first | exact trivial | refine ⟨?_, ?_⟩) ⟨rfl, trivial, rfl, trivial, rfl, trivial, trivial⟩) ?_
    rintro ⟨m14, v10⟩ h
    replace h : m_laws_eqStringS_l1 n a_ b_ m14 v10 = some r := h
    rcases m14 with _ | m14
    · rw [m_laws_eqStringS_l1] at h; cases h
    rw [m_laws_eqStringS_l1] at h
    refine aw_seq ?_
    refine aw_seq ?_
    refine aw_region ?_
    refine awl_val hτ rfl rfl rfl ?_
    refine awl_val hτ rfl rfl rfl ?_
    refine awl_val hτ (v := .d (.int .i64 (a_.length : Int))) rfl rfl (Eq.trans rfl (or_len (f := eStr) a_)) ?_
    refine awl_val hτ rfl rfl rfl ?_
    refine awl_nil ?_
    refine aw_cond rfl (fun hc16 => ?_) (fun hc16 => ?_)
    · have h := if_t h hc16
      refine aw_skip ?_
      refine aw_seq ?_
      refine aw_block ?_
      refine aw_seq ?_
      refine any_start ?_
      refine any_val hτ [] 0 rfl rfl rfl rfl rfl ?_
      refine any_val hτ [] 1 rfl rfl rfl rfl rfl ?_
      refine bnd_elim h fun x19 hx19 h => ?_
      refine any_elem hτ [] 2 rfl rfl rfl rfl rfl (getI_some hx19).1 (map_getI hx19) rfl ?_
      refine any_val hτ [] 3 rfl rfl rfl rfl rfl ?_
      refine any_val hτ [] 4 rfl rfl rfl rfl rfl ?_
      refine any_val hτ [] 5 rfl rfl rfl rfl rfl ?_
      refine bnd_elim h fun x20 hx20 h => ?_
      refine any_elem hτ [] 6 rfl rfl rfl rfl rfl (getI_some hx20).1 (map_getI hx20) rfl ?_
      refine any_val hτ [] 7 rfl rfl rfl rfl rfl ?_
      refine any_val hτ (v := .d (.bool (!(decide (x19 = x20))))) [] 8 rfl rfl rfl rfl (or_sne _ _) ?_
      refine any_done mixed (by kernel_rfl) ?_
      refine aw_weak (weak_ofP [] (l := [(0, .d (.sl false (a_.map eStr))), (1, .d (.sl false (b_.map eStr))), (5, .d (.int .i64 v10)), (25, .d (.bool (!(decide (x19 = x20)))))]) (objs := []) rfl (by simp) rfl (by repeat' first | exact trivial | refine ⟨?_, ?_⟩) ⟨rfl, trivial, rfl, trivial, rfl, trivial, rfl, trivial, trivial⟩) ?_
      refine aw_cond rfl (fun hc21 => ?_) (fun hc21 => ?_)
      · have hc21 := not_t hc21
        have h := if_f h hc21
        refine aw_seq ?_
        refine aw_region ?_
        refine awl_val hτ rfl rfl rfl ?_
        refine awl_nil ?_
        refine aw_weak (weak_ofP [] (l := [(4, .d (.bool false))]) (objs := []) rfl (by simp) rfl (by repeat' first | exact trivial | refine ⟨?_, ?_⟩) ⟨rfl, trivial, trivial⟩) ?_
        refine aw_ret ?_
        have hr := Option.some.inj h
        subst hr
        exact ret_objs (.inr rfl) [] (objs' := []) (new := []) rfl (by simp) (by simp) rfl (by repeat' first | exact trivial | refine ⟨?_, ?_⟩) rfl rfl (by repeat' first | exact trivial | refine ⟨?_, ?_⟩) (fun _ => ⟨by simp [V.flat, V.flatA, V.flatC, D.flat], flat_nil⟩) ⟨rfl, rfl, rfl⟩
      · have hc21 := not_f hc21
        have h := if_t h hc21
        refine aw_skip ?_
        refine aw_region ?_
        refine awl_val hτ rfl rfl rfl ?_
        refine awl_val hτ rfl rfl rfl ?_
        refine awl_val hτ rfl rfl rfl ?_
        refine awl_nil ?_
        exact ⟨(m14, (w64 (v10 + (1 : Int)))), h, Nat.lt_succ_self m14, (weak_ofP [] (l := [(0, .d (.sl false (a_.map eStr))), (1, .d (.sl false (b_.map eStr))), (5, .d (.int .i64 (w64 (v10 + (1 : Int)))))]) (objs := []) rfl (by simp) rfl (by repeat' first | exact trivial | refine ⟨?_, ?_⟩) ⟨rfl, trivial, rfl, trivial, rfl, trivial, trivial⟩)⟩
    · have h := if_f h hc16
      refine aw_exit ?_
      refine aw_seq ?_
      refine aw_region ?_
      refine awl_val hτ rfl rfl rfl ?_
      refine awl_nil ?_
      refine aw_weak (weak_ofP [] (l := [(4, .d (.bool true))]) (objs := []) rfl (by simp) rfl (by repeat' first | exact trivial | refine ⟨?_, ?_⟩) ⟨rfl, trivial, trivial⟩) ?_
      refine aw_ret ?_
      have hr := Option.some.inj h
      subst hr
      exact ret_objs (.inr rfl) [] (objs' := []) (new := []) rfl (by simp) (by simp) rfl (by repeat' first | exact trivial | refine ⟨?_, ?_⟩) rfl rfl (by repeat' first | exact trivial | refine ⟨?_, ?_⟩) (fun _ => ⟨by simp [V.flat, V.flatA, V.flatC, D.flat], flat_nil⟩) ⟨rfl, rfl, rfl⟩
theorem laws_eqStringS_ok (n : Nat) (a_ : List Str) (b_ : List Str) {r : Bool} (h : m_laws_eqStringS n a_ b_ = some r) : ACall prog false 22 [.d (.sl false (a_.map eStr)), .d (.sl false (b_.map eStr))] [] (fun v o new => v = .d (.bool r) ∧ o = [] ∧ new = []) := laws_eqStringS_ok_fr0 false n a_ b_ h
theorem laws_eqStringS_ok_fr (n : Nat) (a_ : List Str) (b_ : List Str) {r : Bool} (h : m_laws_eqStringS n a_ b_ = some r) : ACall prog true 22 [.d (.sl false (a_.map eStr)), .d (.sl false (b_.map eStr))] [] (fun v o new => v = .d (.bool r) ∧ o = [] ∧ new = []) := laws_eqStringS_ok_fr0 true n a_ b_ h

def m_laws_FnExactJournalOf_j1 (n : Nat) (aLines_ : List Str) (x14 : List Str) : Option Bool :=
  (m_laws_toStringS n aLines_).bind fun x18 =>
  (m_laws_eqStringS n x14 x18).bind fun x19 =>
  if x19 = true then
    some true
  else
    some false
def m_laws_FnExactJournalOf_j2 (n : Nat) (aLines_ : List Str) (x14 : List Str) (v24 : Bool) : Option Bool :=
  if v24 = true then
    some false
  else
    m_laws_FnExactJournalOf_j1 n aLines_ x14
def m_laws_FnExactJournalOf (n : Nat) (aLines_ : List Str) : Option Bool :=
  (m_laws_szStringS n aLines_ (1048576 : Int)).bind fun x10 =>
  if x10 < (0 : Int) then
    some true
  else
    (m_laws_toStringS n aLines_).bind fun x12 =>
    (m_spec_JournalOf n x12).bind fun x13 =>
    (m_laws_toStringS n aLines_).bind fun x14 =>
    (m_impl_JournalOf n x14).bind fun x15 =>
    if x15.1 = x13.1 then
      m_laws_FnExactJournalOf_j2 n aLines_ x14 (!(x15.2 == x13.2))
    else
      m_laws_FnExactJournalOf_j2 n aLines_ x14 true
theorem laws_FnExactJournalOf_ok_fr0 (fr : Bool) (n : Nat) (aLines_ : List Str) {r : Bool} (h : m_laws_FnExactJournalOf n aLines_ = some r) : ACall prog fr 4 [.d (.sl false (aLines_.map eStr))] [] (fun v o new => v = .d (.bool r) ∧ o = [] ∧ new = []) := by
  refine acall_of_aw hτ func4 rfl (by simp) (by simp) ?_
  unfold m_laws_FnExactJournalOf at h
  refine aw_seq ?_
  refine aw_region ?_
  refine awl_val hτ rfl rfl rfl ?_
  refine awl_nil ?_
  refine aw_seq ?_
  refine aw_region ?_
  refine awl_val hτ rfl rfl rfl ?_
  refine awl_nil ?_
  refine aw_seq ?_
  refine aw_region ?_
  refine awl_val hτ rfl rfl rfl ?_
  refine awl_val hτ rfl rfl rfl ?_
  refine bnd_elim h fun x10 hx10 h => ?_
  refine awl_callP hτ false [] rfl rfl rfl (enterOk func18 rfl rfl) rfl rfl (by simp) ⟨trivial, trivial, trivial⟩ (by repeat' first | exact trivial | refine ⟨?_, ?_⟩) (laws_szStringS_ok n aLines_ (1048576 : Int) hx10) ?_
  rintro r0 o0 n0 ⟨rfl, rfl, rfl⟩ -
  refine awl_val hτ rfl rfl rfl ?_
  refine awl_nil ?_
  refine aw_seq ?_
  refine aw_seq ?_
  refine aw_weak (weak_ofP [] (l := [(0, .d (.sl false (aLines_.map eStr))), (3, .d (.int .i64 x10))]) (objs := []) rfl (by simp) rfl (by repeat' first | exact trivial | refine ⟨?_, ?_⟩) ⟨rfl, trivial, rfl, trivial, trivial⟩) ?_
  refine aw_region ?_
  refine awl_val hτ rfl rfl rfl ?_
  refine awl_val hτ rfl rfl rfl ?_
  refine awl_nil ?_
  refine aw_cond rfl (fun hc11 => ?_) (fun hc11 => ?_)
  · have h := if_t h hc11
    refine aw_seq ?_
    refine aw_region ?_
    refine awl_val hτ rfl rfl rfl ?_
    refine awl_nil ?_
    refine aw_weak (weak_ofP [] (l := [(2, .d (.bool true))]) (objs := []) rfl (by simp) rfl (by repeat' first | exact trivial | refine ⟨?_, ?_⟩) ⟨rfl, trivial, trivial⟩) ?_
    refine aw_ret ?_
    have hr := Option.some.inj h
    subst hr
    exact ret_objs (.inr rfl) [] (objs' := []) (new := []) rfl (by simp) (by simp) rfl (by repeat' first | exact trivial | refine ⟨?_, ?_⟩) rfl rfl (by repeat' first | exact trivial | refine ⟨?_, ?_⟩) (fun _ => ⟨by simp [V.flat, V.flatA, V.flatC, D.flat], flat_nil⟩) ⟨rfl, rfl, rfl⟩
  · have h := if_f h hc11
    refine aw_skip ?_
    refine aw_seq ?_
    refine aw_region ?_
    refine awl_val hτ rfl rfl rfl ?_
    refine bnd_elim h fun x12 hx12 h => ?_
    refine awl_callP hτ false [] rfl rfl rfl (enterOk func20 rfl rfl) rfl rfl (by simp) ⟨trivial, trivial⟩ (by repeat' first | exact trivial | refine ⟨?_, ?_⟩) (laws_toStringS_ok n aLines_ hx12) ?_
    rintro r0 o0 n0 ⟨rfl, rfl, rfl⟩ -
    refine awl_weak (weak_ofP [0] (l := [(0, .d (.sl false (aLines_.map eStr))), (16, .row 0 x12.length 0 x12.length)]) (objs := [.row 1 (x12.map eStr)]) rfl (by simp) rfl (by repeat' first | exact trivial | refine ⟨?_, ?_⟩) ⟨rfl, trivial, rfl, trivial, trivial⟩) ?_
    refine bnd_elim h fun x13 hx13 h => ?_
    refine awl_callP hτ true [] rfl rfl rfl (enterOk func19 rfl rfl) (mapO_cons (exV_view (f := eStr) x12 rfl rfl rfl) mapO_nil) rfl (by simp) ⟨(exVP_view (f := eStr) x12 rfl rfl rfl), trivial⟩ (by repeat' first | exact trivial | refine ⟨?_, ?_⟩) (spec_JournalOf_ok_fr n x12 hx13) ?_
    rintro r0 o0 n0 ⟨rfl, rfl, rfl⟩ -
    refine awl_val hτ rfl rfl rfl ?_
    refine awl_val hτ rfl rfl rfl ?_
    refine awl_val hτ rfl rfl rfl ?_
    refine awl_val hτ rfl rfl rfl ?_
    refine awl_val hτ rfl rfl rfl ?_
    refine awl_nil ?_
    refine aw_seq ?_
    refine aw_weak (weak_ofP [] (l := [(0, .d (.sl false (aLines_.map eStr))), (4, .d (.str (bstr x13.1))), (5, .d (.bool x13.2))]) (objs := []) rfl (by simp) rfl (by repeat' first | exact trivial | refine ⟨?_, ?_⟩) ⟨rfl, trivial, rfl, trivial, rfl, trivial, trivial⟩) ?_
    refine aw_region ?_
    refine awl_val hτ rfl rfl rfl ?_
    refine bnd_elim h fun x14 hx14 h => ?_
    refine awl_callP hτ false [] rfl rfl rfl (enterOk func20 rfl rfl) rfl rfl (by simp) ⟨trivial, trivial⟩ (by repeat' first | exact trivial | refine ⟨?_, ?_⟩) (laws_toStringS_ok n aLines_ hx14) ?_
    rintro r0 o0 n0 ⟨rfl, rfl, rfl⟩ -
    refine awl_val hτ rfl rfl rfl ?_
    refine awl_nil ?_
    refine aw_seq ?_
    refine aw_region ?_
    refine awl_val hτ rfl rfl rfl ?_
    refine awl_weak (weak_ofP [0] (l := [(0, .d (.sl false (aLines_.map eStr))), (4, .d (.str (bstr x13.1))), (5, .d (.bool x13.2)), (6, .row 0 x14.length 0 x14.length), (23, .row 0 x14.length 0 x14.length)]) (objs := [.row 1 (x14.map eStr)]) rfl (by simp) rfl (by repeat' first | exact trivial | refine ⟨?_, ?_⟩) ⟨rfl, trivial, rfl, trivial, rfl, trivial, rfl, trivial, rfl, trivial, trivial⟩) ?_
    refine bnd_elim h fun x15 hx15 h => ?_
    refine awl_callP hτ true [] rfl rfl rfl (enterOk func21 rfl rfl) (mapO_cons (exV_view (f := eStr) x14 rfl rfl rfl) mapO_nil) rfl (by simp) ⟨(exVP_view (f := eStr) x14 rfl rfl rfl), trivial⟩ (by repeat' first | exact trivial | refine ⟨?_, ?_⟩) (impl_JournalOf_ok_fr n x14 hx15) ?_
    rintro r0 o0 n0 ⟨rfl, rfl, rfl⟩ -
    refine awl_val hτ rfl rfl rfl ?_
    refine awl_val hτ rfl rfl rfl ?_
    refine awl_val hτ rfl rfl rfl ?_
    refine awl_val hτ rfl rfl rfl ?_
    refine awl_val hτ rfl rfl rfl ?_
    refine awl_nil ?_
    refine aw_hk1 (ι := Unit) (fun _ => St.of [(0, .d (.sl false (aLines_.map eStr))), (6, .row 0 x14.length 0 x14.length)] [.row 1 (x14.map eStr)] f4.ntmps 0) (fun _ => m_laws_FnExactJournalOf_j1 n aLines_ x14 = some r) ?_ (fun hk21 => ?_)
    · rintro ⟨⟩ h
      replace h : m_laws_FnExactJournalOf_j1 n aLines_ x14 = some r := h
      unfold m_laws_FnExactJournalOf_j1 at h
      refine aw_seq ?_
      refine aw_seq ?_
      refine aw_region ?_
      refine awl_val hτ rfl rfl rfl ?_
      refine awl_val hτ rfl rfl rfl ?_
      refine bnd_elim h fun x18 hx18 h => ?_
      refine awl_callP hτ false [] rfl rfl rfl (enterOk func20 rfl rfl) rfl rfl (by simp) ⟨trivial, trivial⟩ (by repeat' first | exact trivial | refine ⟨?_, ?_⟩) (laws_toStringS_ok n aLines_ hx18) ?_
      rintro r0 o0 n0 ⟨rfl, rfl, rfl⟩ -
      refine awl_weak (weak_ofP [0, 1] (l := [(35, .row 0 x14.length 0 x14.length), (37, .row 1 x18.length 0 x18.length)]) (objs := [.row 1 (x14.map eStr), .row 1 (x18.map eStr)]) rfl (by simp) rfl (by repeat' first | exact trivial | refine ⟨?_, ?_⟩) ⟨rfl, trivial, rfl, trivial, trivial⟩) ?_
      refine bnd_elim h fun x19 hx19 h => ?_
      refine awl_callP hτ true [] rfl rfl rfl (enterOk func22 rfl rfl) (mapO_cons (exV_view (f := eStr) x14 rfl rfl rfl) (mapO_cons (exV_view (f := eStr) x18 rfl rfl rfl) mapO_nil)) rfl (by simp) ⟨(exVP_view (f := eStr) x14 rfl rfl rfl), (exVP_view (f := eStr) x18 rfl rfl rfl), trivial⟩ (by repeat' first | exact trivial | refine ⟨?_, ?_⟩) (laws_eqStringS_ok_fr n x14 x18 hx19) ?_
      rintro r0 o0 n0 ⟨rfl, rfl, rfl⟩ -
      refine awl_val hτ rfl rfl rfl ?_
      refine awl_nil ?_
      refine aw_cond rfl (fun hc20 => ?_) (fun hc20 => ?_)
      · have hc20 := not_t hc20
        have h := if_bf h hc20
        refine aw_seq ?_
        refine aw_region ?_
        refine awl_val hτ rfl rfl rfl ?_
        refine awl_nil ?_
        refine aw_weak (weak_ofP [] (l := [(2, .d (.bool false))]) (objs := []) rfl (by simp) rfl (by repeat' first | exact trivial | refine ⟨?_, ?_⟩) ⟨rfl, trivial, trivial⟩) ?_
        refine aw_ret ?_
        have hr := Option.some.inj h
        subst hr
        exact ret_objs (.inr rfl) [] (objs' := []) (new := []) rfl (by simp) (by simp) rfl (by repeat' first | exact trivial | refine ⟨?_, ?_⟩) rfl rfl (by repeat' first | exact trivial | refine ⟨?_, ?_⟩) (fun _ => ⟨by simp [V.flat, V.flatA, V.flatC, D.flat], flat_nil⟩) ⟨rfl, rfl, rfl⟩
      · have hc20 := not_f hc20
        have h := if_bt h hc20
        refine aw_skip ?_
        refine aw_seq ?_
        refine aw_region ?_
        refine awl_val hτ rfl rfl rfl ?_
        refine awl_nil ?_
        refine aw_weak (weak_ofP [] (l := [(2, .d (.bool true))]) (objs := []) rfl (by simp) rfl (by repeat' first | exact trivial | refine ⟨?_, ?_⟩) ⟨rfl, trivial, trivial⟩) ?_
        refine aw_ret ?_
        have hr := Option.some.inj h
        subst hr
        exact ret_objs (.inr rfl) [] (objs' := []) (new := []) rfl (by simp) (by simp) rfl (by repeat' first | exact trivial | refine ⟨?_, ?_⟩) rfl rfl (by repeat' first | exact trivial | refine ⟨?_, ?_⟩) (fun _ => ⟨by simp [V.flat, V.flatA, V.flatC, D.flat], flat_nil⟩) ⟨rfl, rfl, rfl⟩
    · refine aw_seq ?_
      refine aw_hk1 (ι := Bool) (fun v24 => St.of [(0, .d (.sl false (aLines_.map eStr))), (6, .row 0 x14.length 0 x14.length), (34, .d (.bool v24))] [.row 1 (x14.map eStr)] f4.ntmps 0) (fun v24 => m_laws_FnExactJournalOf_j2 n aLines_ x14 v24 = some r) ?_ (fun hk26 => ?_)
      · rintro v24 h
        replace h : m_laws_FnExactJournalOf_j2 n aLines_ x14 v24 = some r := h
        unfold m_laws_FnExactJournalOf_j2 at h
        refine aw_cond rfl (fun hc25 => ?_) (fun hc25 => ?_)
        · have h := if_bt h hc25
          refine aw_seq ?_
          refine aw_region ?_
          refine awl_val hτ rfl rfl rfl ?_
          refine awl_nil ?_
          refine aw_weak (weak_ofP [] (l := [(2, .d (.bool false))]) (objs := []) rfl (by simp) rfl (by repeat' first | exact trivial | refine ⟨?_, ?_⟩) ⟨rfl, trivial, trivial⟩) ?_
          refine aw_ret ?_
          have hr := Option.some.inj h
          subst hr
          exact ret_objs (.inr rfl) [] (objs' := []) (new := []) rfl (by simp) (by simp) rfl (by repeat' first | exact trivial | refine ⟨?_, ?_⟩) rfl rfl (by repeat' first | exact trivial | refine ⟨?_, ?_⟩) (fun _ => ⟨by simp [V.flat, V.flatA, V.flatC, D.flat], flat_nil⟩) ⟨rfl, rfl, rfl⟩
        · have h := if_bf h hc25
          refine aw_skip ?_
          refine aw_weak (weak_ofP [0] (l := [(0, .d (.sl false (aLines_.map eStr))), (6, .row 0 x14.length 0 x14.length)]) (objs := [.row 1 (x14.map eStr)]) rfl (by simp) rfl (by repeat' first | exact trivial | refine ⟨?_, ?_⟩) ⟨rfl, trivial, rfl, trivial, trivial⟩) ?_
          exact hk21 () h
      · refine aw_seq ?_
        refine aw_weak (weak_ofP [0] (l := [(0, .d (.sl false (aLines_.map eStr))), (4, .d (.str (bstr x13.1))), (5, .d (.bool x13.2)), (6, .row 0 x14.length 0 x14.length), (7, .d (.str (bstr x15.1))), (8, .d (.bool x15.2))]) (objs := [.row 1 (x14.map eStr)]) rfl (by simp) rfl (by repeat' first | exact trivial | refine ⟨?_, ?_⟩) ⟨rfl, trivial, rfl, trivial, rfl, trivial, rfl, trivial, rfl, trivial, rfl, trivial, trivial⟩) ?_
        refine aw_region ?_
        refine awl_val hτ rfl rfl rfl ?_
        refine awl_val hτ rfl rfl rfl ?_
        refine awl_val hτ (v := .d (.bool (!(decide (x15.1 = x13.1))))) rfl rfl (or_sne _ _) ?_
        refine awl_val hτ rfl rfl rfl ?_
        refine awl_split 30 rfl (fun hb27 => ?_) (fun hb27 => ?_)
        · have hb27 := not_t hb27
          have h := if_f h hb27
          refine awl_skip rfl rfl ?_
          refine awl_skip rfl rfl ?_
          refine awl_skip rfl rfl ?_
          refine awl_val hτ rfl rfl rfl ?_
          refine awl_nil ?_
          refine aw_weak (weak_ofP [0] (l := [(0, .d (.sl false (aLines_.map eStr))), (6, .row 0 x14.length 0 x14.length), (34, .d (.bool true))]) (objs := [.row 1 (x14.map eStr)]) rfl (by simp) rfl (by repeat' first | exact trivial | refine ⟨?_, ?_⟩) ⟨rfl, trivial, rfl, trivial, rfl, trivial, trivial⟩) ?_
          exact hk26 true h
        · have hb27 := not_f hb27
          have h := if_t h hb27
          refine awl_val hτ rfl rfl rfl ?_
          refine awl_val hτ rfl rfl rfl ?_
          refine awl_val hτ rfl rfl rfl ?_
          refine awl_val hτ rfl rfl rfl ?_
          refine awl_nil ?_
          refine aw_weak (weak_ofP [0] (l := [(0, .d (.sl false (aLines_.map eStr))), (6, .row 0 x14.length 0 x14.length), (34, .d (.bool (!(x15.2 == x13.2))))]) (objs := [.row 1 (x14.map eStr)]) rfl (by simp) rfl (by repeat' first | exact trivial | refine ⟨?_, ?_⟩) ⟨rfl, trivial, rfl, trivial, rfl, trivial, trivial⟩) ?_
          exact hk26 (!(x15.2 == x13.2)) h
theorem laws_FnExactJournalOf_ok (n : Nat) (aLines_ : List Str) {r : Bool} (h : m_laws_FnExactJournalOf n aLines_ = some r) : ACall prog false 4 [.d (.sl false (aLines_.map eStr))] [] (fun v o new => v = .d (.bool r) ∧ o = [] ∧ new = []) := laws_FnExactJournalOf_ok_fr0 false n aLines_ h
theorem laws_FnExactJournalOf_ok_fr (n : Nat) (aLines_ : List Str) {r : Bool} (h : m_laws_FnExactJournalOf n aLines_ = some r) : ACall prog true 4 [.d (.sl false (aLines_.map eStr))] [] (fun v o new => v = .d (.bool r) ∧ o = [] ∧ new = []) := laws_FnExactJournalOf_ok_fr0 true n aLines_ h

end Go.Proofs.YtkagbffdmppbhaaDoor.AWN
