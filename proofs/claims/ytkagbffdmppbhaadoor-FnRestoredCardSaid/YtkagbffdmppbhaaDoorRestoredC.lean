/- Models and contracts, printed by program. -/
import Derived.Test.YtkagbffdmppbhaaDoorRestoredB
set_option linter.unusedVariables false
set_option linter.unusedSimpArgs false
set_option linter.unusedSectionVars false
set_option maxHeartbeats 2000000
namespace Go.Proofs.YtkagbffdmppbhaaDoor.AWN
open Go Go.Proofs.Tryd

def m_cmp_Or_l1 (n : Nat) (vals_ : List Int) : Nat → Int → Option Int
  | 0, _ => none
  | m9 + 1, v6 =>
    if v6 < (vals_.length : Int) then
      (getI vals_ v6).bind fun x13 =>
      if x13 = (0 : Int) then
        (m_cmp_Or_l1 n vals_ m9) (w64 (v6 + (1 : Int)))
      else
        some x13
    else
      some (0 : Int)
def m_cmp_Or (n : Nat) (vals_ : List Int) : Option Int :=
  m_cmp_Or_l1 n vals_ n (0 : Int)
theorem cmp_Or_ok_fr0 (fr : Bool) (n : Nat) (vals_ : List Int) {r : Int} (h : m_cmp_Or n vals_ = some r) : ACall prog fr 51 [.d (.sl false (vals_.map eInti64))] [] (fun v o new => v = .d (.int .i64 r) ∧ o = [] ∧ new = []) := by
  refine acall_of_aw hτ func51 rfl (by simp) (by simp) ?_
  unfold m_cmp_Or at h
  refine aw_seq ?_
  refine aw_region ?_
  refine awl_val hτ rfl rfl rfl ?_
  refine awl_nil ?_
  refine aw_seq ?_
  refine aw_region ?_
  refine awl_val hτ rfl rfl rfl ?_
  refine awl_nil ?_
  refine aw_seq ?_
  refine aw_seq ?_
  refine aw_region ?_
  refine awl_val hτ rfl rfl rfl ?_
  refine awl_val hτ (v := .d (.int .i64 (vals_.length : Int))) rfl rfl (Eq.trans rfl (or_len (f := eInti64) vals_)) ?_
  refine awl_val hτ rfl rfl rfl ?_
  refine awl_nil ?_
  refine aw_block ?_
  refine aw_loop (ι := Nat × Int) (fun (m9, v6) => St.of [(3, .d (.int .i64 (0 : Int))), (6, .d (.sl false (vals_.map eInti64))), (7, .d (.int .i64 (vals_.length : Int))), (8, .d (.int .i64 v6))] [] f51.ntmps 0) (fun (m9, v6) => m_cmp_Or_l1 n vals_ m9 v6 = some r) (fun x => x.1) (n, (0 : Int)) h (weak_ofP [] (l := [(3, .d (.int .i64 (0 : Int))), (6, .d (.sl false (vals_.map eInti64))), (7, .d (.int .i64 (vals_.length : Int))), (8, .d (.int .i64 (0 : Int)))]) (objs := []) rfl (by simp) rfl (by repeat' first | exact trivial | refine ⟨?_, ?_⟩) ⟨rfl, trivial, rfl, trivial, rfl, trivial, rfl, trivial, trivial⟩) ?_
  rintro ⟨m9, v6⟩ h
  replace h : m_cmp_Or_l1 n vals_ m9 v6 = some r := h
  rcases m9 with _ | m9
  · rw [m_cmp_Or_l1] at h; cases h
  rw [m_cmp_Or_l1] at h
  refine aw_seq ?_
  refine aw_region ?_
  refine awl_val hτ rfl rfl rfl ?_
  refine awl_nil ?_
  refine aw_seq ?_
  refine aw_cond rfl (fun hc11 => ?_) (fun hc11 => ?_)
  · have h := if_t h hc11
    refine aw_skip ?_
    refine aw_seq ?_
    refine aw_block ?_
    refine aw_seq ?_
    refine aw_region ?_
    refine bnd_elim h fun x13 hx13 h => ?_
    refine awl_elem hτ rfl rfl rfl (getI_some hx13).1 (map_getI hx13) rfl ?_
    refine awl_val hτ rfl rfl rfl ?_
    refine awl_val hτ rfl rfl rfl ?_
    refine awl_nil ?_
    refine aw_seq ?_
    refine aw_region ?_
    refine awl_val hτ rfl rfl rfl ?_
    refine awl_val hτ rfl rfl rfl ?_
    refine awl_val hτ (v := .d (.bool (!(decide (x13 = (0 : Int)))))) rfl rfl (or_ine _ _) ?_
    refine awl_nil ?_
    refine aw_weak (weak_ofP [] (l := [(3, .d (.int .i64 (0 : Int))), (5, .d (.int .i64 x13)), (6, .d (.sl false (vals_.map eInti64))), (7, .d (.int .i64 (vals_.length : Int))), (8, .d (.int .i64 v6)), (14, .d (.bool (!(decide (x13 = (0 : Int))))))]) (objs := []) rfl (by simp) rfl (by repeat' first | exact trivial | refine ⟨?_, ?_⟩) ⟨rfl, trivial, rfl, trivial, rfl, trivial, rfl, trivial, rfl, trivial, rfl, trivial, trivial⟩) ?_
    refine aw_cond rfl (fun hc14 => ?_) (fun hc14 => ?_)
    · have hc14 := not_t hc14
      have h := if_f h hc14
      refine aw_seq ?_
      refine aw_region ?_
      refine awl_val hτ rfl rfl rfl ?_
      refine awl_val hτ rfl rfl rfl ?_
      refine awl_nil ?_
      refine aw_weak (weak_ofP [] (l := [(2, .d (.int .i64 x13))]) (objs := []) rfl (by simp) rfl (by repeat' first | exact trivial | refine ⟨?_, ?_⟩) ⟨rfl, trivial, trivial⟩) ?_
      refine aw_ret ?_
      have hr := Option.some.inj h
      subst hr
      exact ret_objs (.inr rfl) [] (objs' := []) (new := []) rfl (by simp) (by simp) rfl (by repeat' first | exact trivial | refine ⟨?_, ?_⟩) rfl rfl (by repeat' first | exact trivial | refine ⟨?_, ?_⟩) (fun _ => ⟨by simp [V.flat, V.flatA, V.flatC, D.flat], flat_nil⟩) ⟨rfl, rfl, rfl⟩
    · have hc14 := not_f hc14
      have h := if_t h hc14
      refine aw_skip ?_
      refine aw_region ?_
      refine awl_val hτ rfl rfl rfl ?_
      refine awl_val hτ rfl rfl rfl ?_
      refine awl_nil ?_
      exact ⟨(m9, (w64 (v6 + (1 : Int)))), h, Nat.lt_succ_self m9, (weak_ofP [] (l := [(3, .d (.int .i64 (0 : Int))), (6, .d (.sl false (vals_.map eInti64))), (7, .d (.int .i64 (vals_.length : Int))), (8, .d (.int .i64 (w64 (v6 + (1 : Int)))))]) (objs := []) rfl (by simp) rfl (by repeat' first | exact trivial | refine ⟨?_, ?_⟩) ⟨rfl, trivial, rfl, trivial, rfl, trivial, rfl, trivial, trivial⟩)⟩
  · have h := if_f h hc11
    refine aw_exit ?_
    refine aw_seq ?_
    refine aw_region ?_
    refine awl_val hτ rfl rfl rfl ?_
    refine awl_val hτ rfl rfl rfl ?_
    refine awl_nil ?_
    refine aw_weak (weak_ofP [] (l := [(2, .d (.int .i64 (0 : Int)))]) (objs := []) rfl (by simp) rfl (by repeat' first | exact trivial | refine ⟨?_, ?_⟩) ⟨rfl, trivial, trivial⟩) ?_
    refine aw_ret ?_
    have hr := Option.some.inj h
    subst hr
    exact ret_objs (.inr rfl) [] (objs' := []) (new := []) rfl (by simp) (by simp) rfl (by repeat' first | exact trivial | refine ⟨?_, ?_⟩) rfl rfl (by repeat' first | exact trivial | refine ⟨?_, ?_⟩) (fun _ => ⟨by simp [V.flat, V.flatA, V.flatC, D.flat], flat_nil⟩) ⟨rfl, rfl, rfl⟩
theorem cmp_Or_ok (n : Nat) (vals_ : List Int) {r : Int} (h : m_cmp_Or n vals_ = some r) : ACall prog false 51 [.d (.sl false (vals_.map eInti64))] [] (fun v o new => v = .d (.int .i64 r) ∧ o = [] ∧ new = []) := cmp_Or_ok_fr0 false n vals_ h
theorem cmp_Or_ok_fr (n : Nat) (vals_ : List Int) {r : Int} (h : m_cmp_Or n vals_ = some r) : ACall prog true 51 [.d (.sl false (vals_.map eInti64))] [] (fun v o new => v = .d (.int .i64 r) ∧ o = [] ∧ new = []) := cmp_Or_ok_fr0 true n vals_ h

def m_impl_RestoreAfter_j2 (n : Nat) (k66 : List Int → Int → Int → Option (List Int × Int × Bool)) (v50 : Int) (v79 : List Int) (v80 : Int) : Option (List Int × Int × Bool) :=
  k66 v79 v80 (IntKind.wrap .u64 (v50 + (1 : Int)))
def m_impl_RestoreAfter_l1 (n : Nat) (g_ : SGrid) (bus_ : Int) : Nat → List Int → Int → Int → Option (List Int × Int × Bool)
  | 0, _, _, _ => none
  | m65 + 1, v48, v49, v50 =>
    if v50 < (IntKind.wrap .u64 ((1 : Int) * 2 ^ min (g_.Ties.length : Int).toNat (IntKind.bits .u64))) then
      (m_impl_listed n v50).bind fun x82 =>
      (m_impl_IsPlan n g_ bus_ x82).bind fun x84 =>
      if x84 = true then
        (m_impl_Grid_lit n g_ bus_ x82).bind fun x86 =>
        (m_cmp_Compare n v49 x86).bind fun x87 =>
        (m_cmp_Compare_2 n (x82.length : Int) (v48.length : Int)).bind fun x88 =>
        (m_slices_Compare n x82 v48).bind fun x89 =>
        (m_cmp_Or n [x87, x88, x89]).bind fun x90 =>
        if x90 < (0 : Int) then
          m_impl_RestoreAfter_j2 n (m_impl_RestoreAfter_l1 n g_ bus_ m65) v50 x82 x86
        else
          m_impl_RestoreAfter_j2 n (m_impl_RestoreAfter_l1 n g_ bus_ m65) v50 v48 v49
      else
        m_impl_RestoreAfter_j2 n (m_impl_RestoreAfter_l1 n g_ bus_ m65) v50 v48 v49
    else
      some (v48, v49, true)
def m_impl_RestoreAfter (n : Nat) (g_ : SGrid) (bus_ : Int) : Option (List Int × Int × Bool) :=
  (m_impl_Grid_failing n g_ bus_).bind fun x33 =>
  if x33 = true then
    (m_impl_Grid_lit n g_ bus_ []).bind fun x35 =>
    grd (0 ≤ (g_.Ties.length : Int)) <|
    m_impl_RestoreAfter_l1 n g_ bus_ n ([] : List Int) x35 (0 : Int)
  else
    some (([] : List Int), (0 : Int), false)
theorem impl_RestoreAfter_ok (n : Nat) (g_ : SGrid) (bus_ : Int) {r : List Int × Int × Bool} (h : m_impl_RestoreAfter n g_ bus_ = some r) : ACall prog false 23 [.agg [.d (.cx .f32 g_.Feeder.Source.A.re g_.Feeder.Source.A.im), .d (.cx .f32 g_.Feeder.Source.B.re g_.Feeder.Source.B.im), .d (.cx .f32 g_.Feeder.Source.C.re g_.Feeder.Source.C.im), .d (.sl false (g_.Feeder.Buses.map eSBus)), .d (.sl false (g_.Ties.map eSTie))], .d (.int .i64 bus_)] [] (fun v o new => v = .tup [.d (.sl false (r.1.map eInti64)), .d (.int .i64 r.2.1), .d (.bool r.2.2)] ∧ o = [] ∧ new = []) := by
  refine acall_of_aw hτ func23 rfl (by simp) (by simp) ?_
  unfold m_impl_RestoreAfter at h
  refine aw_seq ?_
  refine aw_region ?_
  refine awl_valH hτ rfl rfl rfl ?_
  refine awl_val hτ rfl rfl rfl ?_
  refine awl_val hτ rfl rfl rfl ?_
  refine awl_val hτ rfl rfl rfl ?_
  refine awl_nil ?_
  refine aw_seq ?_
  refine aw_seq ?_
  refine aw_region ?_
  refine awl_val hτ rfl rfl rfl ?_
  refine bnd_elim h fun x33 hx33 h => ?_
  refine awl_callP hτ false [0] rfl rfl rfl (enterOk func35 rfl rfl) rfl rfl (by simp) ⟨trivial, trivial, trivial⟩ (by repeat' first | exact trivial | refine ⟨?_, ?_⟩) (impl_Grid_failing_ok n g_ bus_ hx33) ?_
  rintro r0 o0 n0 ⟨rfl, rfl, rfl⟩ -
  refine awl_val hτ rfl rfl rfl ?_
  refine awl_nil ?_
  refine aw_weak (weak_ofP [0] (l := [(1, .d (.int .i64 bus_)), (2, .ptr 0 0), (15, .d (.bool (!x33)))]) (objs := [.box [.d (.cx .f32 g_.Feeder.Source.A.re g_.Feeder.Source.A.im), .d (.cx .f32 g_.Feeder.Source.B.re g_.Feeder.Source.B.im), .d (.cx .f32 g_.Feeder.Source.C.re g_.Feeder.Source.C.im), .d (.sl false (g_.Feeder.Buses.map eSBus)), .d (.sl false (g_.Ties.map eSTie))]]) rfl (by simp) rfl (by repeat' first | exact trivial | refine ⟨?_, ?_⟩) ⟨rfl, trivial, rfl, trivial, rfl, trivial, trivial⟩) ?_
  refine aw_cond rfl (fun hc34 => ?_) (fun hc34 => ?_)
  · have hc34 := not_t hc34
    have h := if_bf h hc34
    refine aw_seq ?_
    refine aw_region ?_
    refine awl_val hτ rfl rfl rfl ?_
    refine awl_val hτ rfl rfl rfl ?_
    refine awl_val hτ rfl rfl rfl ?_
    refine awl_nil ?_
    refine aw_weak (weak_ofP [] (l := [(4, .d (.nils)), (5, .d (.int .i64 (0 : Int))), (6, .d (.bool false))]) (objs := []) rfl (by simp) rfl (by repeat' first | exact trivial | refine ⟨?_, ?_⟩) ⟨rfl, trivial, rfl, trivial, rfl, trivial, trivial⟩) ?_
    refine aw_weak (weak_relax [] (l' := [(4, .d (.sl false (([] : List Int).map eInti64))), (5, .d (.int .i64 (0 : Int))), (6, .d (.bool false))]) (objs' := []) (.cons (.c (.d .nil)) (.cons (.c (.refl _)) (.cons (.c (.refl _)) .nil))) .nil) ?_
    refine aw_ret ?_
    have hr := Option.some.inj h
    subst hr
    exact ret_objs (.inr rfl) [] (objs' := []) (new := []) rfl (by simp) (by simp) rfl (by repeat' first | exact trivial | refine ⟨?_, ?_⟩) rfl rfl (by repeat' first | exact trivial | refine ⟨?_, ?_⟩) (fun h => nomatch h) ⟨rfl, rfl, rfl⟩
  · have hc34 := not_f hc34
    have h := if_bt h hc34
    refine aw_skip ?_
    refine aw_seq ?_
    refine aw_region ?_
    refine awl_valH hτ rfl rfl rfl ?_
    refine awl_val hτ rfl rfl rfl ?_
    refine bnd_elim h fun x35 hx35 h => ?_
    refine awl_callP hτ false [0] rfl rfl rfl (enterOk func43 rfl rfl) rfl rfl (by simp) ⟨trivial, trivial, trivial, trivial⟩ (by repeat' first | exact trivial | refine ⟨?_, ?_⟩) (acall_le (.cons (.c (.refl _)) (.cons (.c (.refl _)) (.cons (.c (.d .nil)) .nil))) (impl_Grid_lit_ok n g_ bus_ [] hx35)) ?_
    rintro r0 o0 n0 ⟨rfl, rfl, rfl⟩ -
    refine awl_val hτ rfl rfl rfl ?_
    refine awl_val hτ rfl rfl rfl ?_
    refine awl_nil ?_
    refine aw_seq ?_
    refine aw_seq ?_
    refine aw_region ?_
    refine awl_val hτ rfl rfl rfl ?_
    refine awl_val hτ rfl rfl rfl ?_
    refine awl_val hτ (v := .d (.int .i64 (g_.Ties.length : Int))) rfl rfl (Eq.trans rfl (or_len (f := eSTie) g_.Ties)) ?_
    refine grd_elim h fun hg36 h => ?_
    refine awl_need hτ rfl rfl rfl hg36 ?_
    refine awl_val hτ rfl rfl rfl ?_
    refine awl_nil ?_
    refine aw_block ?_
    refine aw_loop (ι := Nat × List Int × Int × Int) (fun (m65, v48, v49, v50) => St.of [(1, .d (.int .i64 bus_)), (2, .ptr 0 0), (7, .d (.sl false (v48.map eInti64))), (8, .d (.int .i64 v49)), (22, .d (.int .u64 (IntKind.wrap .u64 ((1 : Int) * 2 ^ min (g_.Ties.length : Int).toNat (IntKind.bits .u64))))), (23, .d (.int .u64 v50))] [.box [.d (.cx .f32 g_.Feeder.Source.A.re g_.Feeder.Source.A.im), .d (.cx .f32 g_.Feeder.Source.B.re g_.Feeder.Source.B.im), .d (.cx .f32 g_.Feeder.Source.C.re g_.Feeder.Source.C.im), .d (.sl false (g_.Feeder.Buses.map eSBus)), .d (.sl false (g_.Ties.map eSTie))]] f23.ntmps 0) (fun (m65, v48, v49, v50) => m_impl_RestoreAfter_l1 n g_ bus_ m65 v48 v49 v50 = some r) (fun x => x.1) (n, ([] : List Int), x35, (0 : Int)) h (weak_ofP [0] (l := [(1, .d (.int .i64 bus_)), (2, .ptr 0 0), (7, .d (.sl false (([] : List Int).map eInti64))), (8, .d (.int .i64 x35)), (22, .d (.int .u64 (IntKind.wrap .u64 ((1 : Int) * 2 ^ min (g_.Ties.length : Int).toNat (IntKind.bits .u64))))), (23, .d (.int .u64 (0 : Int)))]) (objs := [.box [.d (.cx .f32 g_.Feeder.Source.A.re g_.Feeder.Source.A.im), .d (.cx .f32 g_.Feeder.Source.B.re g_.Feeder.Source.B.im), .d (.cx .f32 g_.Feeder.Source.C.re g_.Feeder.Source.C.im), .d (.sl false (g_.Feeder.Buses.map eSBus)), .d (.sl false (g_.Ties.map eSTie))]]) rfl (by simp) rfl (by repeat' first | exact trivial | refine ⟨?_, ?_⟩) ⟨rfl, trivial, rfl, trivial, (exV_view (f := eInti64) ([] : List Int) rfl rfl rfl), (exVP_view (f := eInti64) ([] : List Int) rfl rfl rfl), rfl, trivial, rfl, trivial, rfl, trivial, trivial⟩) ?_
    rintro ⟨m65, v48, v49, v50⟩ h
    replace h : m_impl_RestoreAfter_l1 n g_ bus_ m65 v48 v49 v50 = some r := h
    rcases m65 with _ | m65
    · rw [m_impl_RestoreAfter_l1] at h; cases h
    rw [m_impl_RestoreAfter_l1] at h
    refine aw_seq ?_
    refine aw_region ?_
    refine awl_val hτ rfl rfl rfl ?_
    refine awl_nil ?_
    refine aw_seq ?_
    refine aw_cond rfl (fun hc67 => ?_) (fun hc67 => ?_)
    · have h := if_t h hc67
      refine aw_skip ?_
      refine aw_hk1 (ι := List Int × Int) (fun (v79, v80) => St.of [(1, .d (.int .i64 bus_)), (2, .ptr 0 0), (7, .d (.sl false (v79.map eInti64))), (8, .d (.int .i64 v80)), (22, .d (.int .u64 (IntKind.wrap .u64 ((1 : Int) * 2 ^ min (g_.Ties.length : Int).toNat (IntKind.bits .u64))))), (23, .d (.int .u64 v50))] [.box [.d (.cx .f32 g_.Feeder.Source.A.re g_.Feeder.Source.A.im), .d (.cx .f32 g_.Feeder.Source.B.re g_.Feeder.Source.B.im), .d (.cx .f32 g_.Feeder.Source.C.re g_.Feeder.Source.C.im), .d (.sl false (g_.Feeder.Buses.map eSBus)), .d (.sl false (g_.Ties.map eSTie))]] f23.ntmps 0) (fun (v79, v80) => m_impl_RestoreAfter_j2 n (m_impl_RestoreAfter_l1 n g_ bus_ m65) v50 v79 v80 = some r) ?_ (fun hk81 => ?_)
      · rintro ⟨v79, v80⟩ h
        replace h : m_impl_RestoreAfter_j2 n (m_impl_RestoreAfter_l1 n g_ bus_ m65) v50 v79 v80 = some r := h
        unfold m_impl_RestoreAfter_j2 at h
        refine aw_region ?_
        refine awl_val hτ rfl rfl rfl ?_
        refine awl_val hτ rfl rfl rfl ?_
        refine awl_nil ?_
        exact ⟨(m65, v79, v80, (IntKind.wrap .u64 (v50 + (1 : Int)))), h, Nat.lt_succ_self m65, (weak_ofP [0] (l := [(1, .d (.int .i64 bus_)), (2, .ptr 0 0), (7, .d (.sl false (v79.map eInti64))), (8, .d (.int .i64 v80)), (22, .d (.int .u64 (IntKind.wrap .u64 ((1 : Int) * 2 ^ min (g_.Ties.length : Int).toNat (IntKind.bits .u64))))), (23, .d (.int .u64 (IntKind.wrap .u64 (v50 + (1 : Int)))))]) (objs := [.box [.d (.cx .f32 g_.Feeder.Source.A.re g_.Feeder.Source.A.im), .d (.cx .f32 g_.Feeder.Source.B.re g_.Feeder.Source.B.im), .d (.cx .f32 g_.Feeder.Source.C.re g_.Feeder.Source.C.im), .d (.sl false (g_.Feeder.Buses.map eSBus)), .d (.sl false (g_.Ties.map eSTie))]]) rfl (by simp) rfl (by repeat' first | exact trivial | refine ⟨?_, ?_⟩) ⟨rfl, trivial, rfl, trivial, rfl, trivial, rfl, trivial, rfl, trivial, rfl, trivial, trivial⟩)⟩
      · refine aw_seq ?_
        refine aw_block ?_
        refine aw_seq ?_
        refine aw_region ?_
        refine awl_val hτ rfl rfl rfl ?_
        refine awl_val hτ rfl rfl rfl ?_
        refine awl_nil ?_
        refine aw_seq ?_
        refine aw_region ?_
        refine awl_val hτ rfl rfl rfl ?_
        refine bnd_elim h fun x82 hx82 h => ?_
        refine awl_callP hτ false [] rfl rfl rfl (enterOk func39 rfl rfl) rfl rfl (by simp) ⟨trivial, trivial⟩ (by repeat' first | exact trivial | refine ⟨?_, ?_⟩) (impl_listed_ok n v50 hx82) ?_
        rintro r0 o0 n0 ⟨rfl, rfl, rfl⟩ -
        refine awl_val hτ rfl rfl rfl ?_
        refine awl_nil ?_
        refine aw_seq ?_
        refine aw_seq ?_
        refine aw_weak (weak_ofP [0, 1] (l := [(1, .d (.int .i64 bus_)), (2, .ptr 0 0), (7, .d (.sl false (v48.map eInti64))), (8, .d (.int .i64 v49)), (10, .row 1 x82.length 0 x82.length), (22, .d (.int .u64 (IntKind.wrap .u64 ((1 : Int) * 2 ^ min (g_.Ties.length : Int).toNat (IntKind.bits .u64))))), (23, .d (.int .u64 v50))]) (objs := [.box [.d (.cx .f32 g_.Feeder.Source.A.re g_.Feeder.Source.A.im), .d (.cx .f32 g_.Feeder.Source.B.re g_.Feeder.Source.B.im), .d (.cx .f32 g_.Feeder.Source.C.re g_.Feeder.Source.C.im), .d (.sl false (g_.Feeder.Buses.map eSBus)), .d (.sl false (g_.Ties.map eSTie))], .row 1 (x82.map eInti64)]) rfl (by simp) rfl (by repeat' first | exact trivial | refine ⟨?_, ?_⟩) ⟨rfl, trivial, rfl, trivial, rfl, trivial, rfl, trivial, rfl, trivial, rfl, trivial, rfl, trivial, trivial⟩) ?_
        refine aw_region ?_
        refine awl_val hτ rfl rfl rfl ?_
        refine awl_val hτ rfl rfl rfl ?_
        refine awl_val hτ rfl rfl rfl ?_
        refine awl_weak (weak_ofP [0, 1] (l := [(1, .d (.int .i64 bus_)), (2, .ptr 0 0), (7, .d (.sl false (v48.map eInti64))), (8, .d (.int .i64 v49)), (10, .row 1 x82.length 0 x82.length), (22, .d (.int .u64 (IntKind.wrap .u64 ((1 : Int) * 2 ^ min (g_.Ties.length : Int).toNat (IntKind.bits .u64))))), (23, .d (.int .u64 v50)), (28, .agg [.d (.cx .f32 g_.Feeder.Source.A.re g_.Feeder.Source.A.im), .d (.cx .f32 g_.Feeder.Source.B.re g_.Feeder.Source.B.im), .d (.cx .f32 g_.Feeder.Source.C.re g_.Feeder.Source.C.im), .d (.sl false (g_.Feeder.Buses.map eSBus)), .d (.sl false (g_.Ties.map eSTie))]), (29, .d (.int .i64 bus_)), (30, .row 1 x82.length 0 x82.length)]) (objs := [.box [.d (.cx .f32 g_.Feeder.Source.A.re g_.Feeder.Source.A.im), .d (.cx .f32 g_.Feeder.Source.B.re g_.Feeder.Source.B.im), .d (.cx .f32 g_.Feeder.Source.C.re g_.Feeder.Source.C.im), .d (.sl false (g_.Feeder.Buses.map eSBus)), .d (.sl false (g_.Ties.map eSTie))], .row 1 (x82.map eInti64)]) rfl (by simp) rfl (by repeat' first | exact trivial | refine ⟨?_, ?_⟩) ⟨rfl, trivial, rfl, trivial, rfl, trivial, rfl, trivial, rfl, trivial, rfl, trivial, rfl, trivial, rfl, (by repeat' first | exact trivial | refine ⟨?_, ?_⟩), rfl, trivial, rfl, trivial, trivial⟩) ?_
        refine bnd_elim h fun x84 hx84 h => ?_
        refine awl_callP hτ true [] rfl rfl rfl (enterOk func24 rfl rfl) (mapO_cons rfl (mapO_cons rfl (mapO_cons (exV_view (f := eInti64) x82 rfl rfl rfl) mapO_nil))) rfl (by simp) ⟨(by repeat' first | exact trivial | refine ⟨?_, ?_⟩), trivial, (exVP_view (f := eInti64) x82 rfl rfl rfl), trivial⟩ (by repeat' first | exact trivial | refine ⟨?_, ?_⟩) (impl_IsPlan_ok_fr n g_ bus_ x82 hx84) ?_
        rintro r0 o0 n0 ⟨rfl, rfl, rfl⟩ -
        refine awl_val hτ rfl rfl rfl ?_
        refine awl_nil ?_
        refine aw_cond rfl (fun hc85 => ?_) (fun hc85 => ?_)
        · have hc85 := not_t hc85
          have h := if_bf h hc85
          refine aw_exit ?_
          refine aw_weak (weak_ofP [0] (l := [(1, .d (.int .i64 bus_)), (2, .ptr 0 0), (7, .d (.sl false (v48.map eInti64))), (8, .d (.int .i64 v49)), (22, .d (.int .u64 (IntKind.wrap .u64 ((1 : Int) * 2 ^ min (g_.Ties.length : Int).toNat (IntKind.bits .u64))))), (23, .d (.int .u64 v50))]) (objs := [.box [.d (.cx .f32 g_.Feeder.Source.A.re g_.Feeder.Source.A.im), .d (.cx .f32 g_.Feeder.Source.B.re g_.Feeder.Source.B.im), .d (.cx .f32 g_.Feeder.Source.C.re g_.Feeder.Source.C.im), .d (.sl false (g_.Feeder.Buses.map eSBus)), .d (.sl false (g_.Ties.map eSTie))]]) rfl (by simp) rfl (by repeat' first | exact trivial | refine ⟨?_, ?_⟩) ⟨rfl, trivial, rfl, trivial, rfl, trivial, rfl, trivial, rfl, trivial, rfl, trivial, trivial⟩) ?_
          exact hk81 (v48, v49) h
        · have hc85 := not_f hc85
          have h := if_bt h hc85
          refine aw_skip ?_
          refine aw_seq ?_
          refine aw_region ?_
          refine awl_val hτ rfl rfl rfl ?_
          refine awl_val hτ rfl rfl rfl ?_
          refine awl_weak (weak_ofP [0] (l := [(1, .d (.int .i64 bus_)), (2, .ptr 0 0), (7, .d (.sl false (v48.map eInti64))), (8, .d (.int .i64 v49)), (10, .d (.sl false (x82.map eInti64))), (22, .d (.int .u64 (IntKind.wrap .u64 ((1 : Int) * 2 ^ min (g_.Ties.length : Int).toNat (IntKind.bits .u64))))), (23, .d (.int .u64 v50)), (33, .d (.int .i64 bus_)), (34, .d (.sl false (x82.map eInti64)))]) (objs := [.box [.d (.cx .f32 g_.Feeder.Source.A.re g_.Feeder.Source.A.im), .d (.cx .f32 g_.Feeder.Source.B.re g_.Feeder.Source.B.im), .d (.cx .f32 g_.Feeder.Source.C.re g_.Feeder.Source.C.im), .d (.sl false (g_.Feeder.Buses.map eSBus)), .d (.sl false (g_.Ties.map eSTie))]]) rfl (by simp) rfl (by repeat' first | exact trivial | refine ⟨?_, ?_⟩) ⟨rfl, trivial, rfl, trivial, rfl, trivial, rfl, trivial, (exV_view (f := eInti64) x82 rfl rfl rfl), (exVP_view (f := eInti64) x82 rfl rfl rfl), rfl, trivial, rfl, trivial, rfl, trivial, (exV_view (f := eInti64) x82 rfl rfl rfl), (exVP_view (f := eInti64) x82 rfl rfl rfl), trivial⟩) ?_
          refine bnd_elim h fun x86 hx86 h => ?_
          refine awl_callP hτ false [0] rfl rfl rfl (enterOk func43 rfl rfl) rfl rfl (by simp) ⟨trivial, trivial, trivial, trivial⟩ (by repeat' first | exact trivial | refine ⟨?_, ?_⟩) (impl_Grid_lit_ok n g_ bus_ x82 hx86) ?_
          rintro r0 o0 n0 ⟨rfl, rfl, rfl⟩ -
          refine awl_val hτ rfl rfl rfl ?_
          refine awl_nil ?_
          refine aw_seq ?_
          refine aw_region ?_
          refine awl_val hτ rfl rfl rfl ?_
          refine awl_val hτ rfl rfl rfl ?_
          refine bnd_elim h fun x87 hx87 h => ?_
          refine awl_callP hτ false [] rfl rfl rfl (enterOk func52 rfl rfl) rfl rfl (by simp) ⟨trivial, trivial, trivial⟩ (by repeat' first | exact trivial | refine ⟨?_, ?_⟩) (cmp_Compare_ok n v49 x86 hx87) ?_
          rintro r0 o0 n0 ⟨rfl, rfl, rfl⟩ -
          refine awl_val hτ rfl rfl rfl ?_
          refine awl_val hτ (v := .d (.int .i64 (x82.length : Int))) rfl rfl (Eq.trans rfl (or_len (f := eInti64) x82)) ?_
          refine awl_val hτ rfl rfl rfl ?_
          refine awl_val hτ (v := .d (.int .i64 (v48.length : Int))) rfl rfl (Eq.trans rfl (or_len (f := eInti64) v48)) ?_
          refine bnd_elim h fun x88 hx88 h => ?_
          refine awl_callP hτ false [] rfl rfl rfl (enterOk func53 rfl rfl) rfl rfl (by simp) ⟨trivial, trivial, trivial⟩ (by repeat' first | exact trivial | refine ⟨?_, ?_⟩) (cmp_Compare_2_ok n (x82.length : Int) (v48.length : Int) hx88) ?_
          rintro r0 o0 n0 ⟨rfl, rfl, rfl⟩ -
          refine awl_val hτ rfl rfl rfl ?_
          refine awl_val hτ rfl rfl rfl ?_
          refine awl_weak (weak_ofP [0] (l := [(1, .d (.int .i64 bus_)), (2, .ptr 0 0), (7, .d (.sl false (v48.map eInti64))), (8, .d (.int .i64 v49)), (10, .d (.sl false (x82.map eInti64))), (11, .d (.int .i64 x86)), (22, .d (.int .u64 (IntKind.wrap .u64 ((1 : Int) * 2 ^ min (g_.Ties.length : Int).toNat (IntKind.bits .u64))))), (23, .d (.int .u64 v50)), (38, .d (.int .i64 x87)), (43, .d (.int .i64 x88)), (44, .d (.sl false (x82.map eInti64))), (45, .d (.sl false (v48.map eInti64)))]) (objs := [.box [.d (.cx .f32 g_.Feeder.Source.A.re g_.Feeder.Source.A.im), .d (.cx .f32 g_.Feeder.Source.B.re g_.Feeder.Source.B.im), .d (.cx .f32 g_.Feeder.Source.C.re g_.Feeder.Source.C.im), .d (.sl false (g_.Feeder.Buses.map eSBus)), .d (.sl false (g_.Ties.map eSTie))]]) rfl (by simp) rfl (by repeat' first | exact trivial | refine ⟨?_, ?_⟩) ⟨rfl, trivial, rfl, trivial, rfl, trivial, rfl, trivial, rfl, trivial, rfl, trivial, rfl, trivial, rfl, trivial, rfl, trivial, rfl, trivial, rfl, trivial, rfl, trivial, trivial⟩) ?_
          refine bnd_elim h fun x89 hx89 h => ?_
          refine awl_callP hτ false [] rfl rfl rfl (enterOk func54 rfl rfl) rfl rfl (by simp) ⟨trivial, trivial, trivial⟩ (by repeat' first | exact trivial | refine ⟨?_, ?_⟩) (slices_Compare_ok n x82 v48 hx89) ?_
          rintro r0 o0 n0 ⟨rfl, rfl, rfl⟩ -
          refine awl_valH hτ rfl rfl rfl ?_
          refine awl_weak (weak_ofP [0, 1] (l := [(1, .d (.int .i64 bus_)), (2, .ptr 0 0), (7, .d (.sl false (v48.map eInti64))), (8, .d (.int .i64 v49)), (10, .d (.sl false (x82.map eInti64))), (11, .d (.int .i64 x86)), (22, .d (.int .u64 (IntKind.wrap .u64 ((1 : Int) * 2 ^ min (g_.Ties.length : Int).toNat (IntKind.bits .u64))))), (23, .d (.int .u64 v50)), (47, .row 1 ([x87, x88, x89].length) 0 ([x87, x88, x89].length))]) (objs := [.box [.d (.cx .f32 g_.Feeder.Source.A.re g_.Feeder.Source.A.im), .d (.cx .f32 g_.Feeder.Source.B.re g_.Feeder.Source.B.im), .d (.cx .f32 g_.Feeder.Source.C.re g_.Feeder.Source.C.im), .d (.sl false (g_.Feeder.Buses.map eSBus)), .d (.sl false (g_.Ties.map eSTie))], .row 1 ([x87, x88, x89].map eInti64)]) rfl (by simp) rfl (by repeat' first | exact trivial | refine ⟨?_, ?_⟩) ⟨rfl, trivial, rfl, trivial, rfl, trivial, rfl, trivial, rfl, trivial, rfl, trivial, rfl, trivial, rfl, trivial, rfl, trivial, trivial⟩) ?_
          refine bnd_elim h fun x90 hx90 h => ?_
          refine awl_callP hτ true [] rfl rfl rfl (enterOk func51 rfl rfl) (mapO_cons (exV_view (f := eInti64) [x87, x88, x89] rfl rfl rfl) mapO_nil) rfl (by simp) ⟨(exVP_view (f := eInti64) [x87, x88, x89] rfl rfl rfl), trivial⟩ (by repeat' first | exact trivial | refine ⟨?_, ?_⟩) (cmp_Or_ok_fr n [x87, x88, x89] hx90) ?_
          rintro r0 o0 n0 ⟨rfl, rfl, rfl⟩ -
          refine awl_val hτ rfl rfl rfl ?_
          refine awl_nil ?_
          refine aw_seq ?_
          refine aw_region ?_
          refine awl_val hτ rfl rfl rfl ?_
          refine awl_val hτ rfl rfl rfl ?_
          refine awl_nil ?_
          refine aw_cond rfl (fun hc91 => ?_) (fun hc91 => ?_)
          · have h := if_t h hc91
            refine aw_region ?_
            refine awl_val hτ rfl rfl rfl ?_
            refine awl_val hτ rfl rfl rfl ?_
            refine awl_val hτ rfl rfl rfl ?_
            refine awl_val hτ rfl rfl rfl ?_
            refine awl_nil ?_
            refine aw_weak (weak_ofP [0] (l := [(1, .d (.int .i64 bus_)), (2, .ptr 0 0), (7, .d (.sl false (x82.map eInti64))), (8, .d (.int .i64 x86)), (22, .d (.int .u64 (IntKind.wrap .u64 ((1 : Int) * 2 ^ min (g_.Ties.length : Int).toNat (IntKind.bits .u64))))), (23, .d (.int .u64 v50))]) (objs := [.box [.d (.cx .f32 g_.Feeder.Source.A.re g_.Feeder.Source.A.im), .d (.cx .f32 g_.Feeder.Source.B.re g_.Feeder.Source.B.im), .d (.cx .f32 g_.Feeder.Source.C.re g_.Feeder.Source.C.im), .d (.sl false (g_.Feeder.Buses.map eSBus)), .d (.sl false (g_.Ties.map eSTie))]]) rfl (by simp) rfl (by repeat' first | exact trivial | refine ⟨?_, ?_⟩) ⟨rfl, trivial, rfl, trivial, rfl, trivial, rfl, trivial, rfl, trivial, rfl, trivial, trivial⟩) ?_
            exact hk81 (x82, x86) h
          · have h := if_f h hc91
            refine aw_skip ?_
            refine aw_weak (weak_ofP [0] (l := [(1, .d (.int .i64 bus_)), (2, .ptr 0 0), (7, .d (.sl false (v48.map eInti64))), (8, .d (.int .i64 v49)), (22, .d (.int .u64 (IntKind.wrap .u64 ((1 : Int) * 2 ^ min (g_.Ties.length : Int).toNat (IntKind.bits .u64))))), (23, .d (.int .u64 v50))]) (objs := [.box [.d (.cx .f32 g_.Feeder.Source.A.re g_.Feeder.Source.A.im), .d (.cx .f32 g_.Feeder.Source.B.re g_.Feeder.Source.B.im), .d (.cx .f32 g_.Feeder.Source.C.re g_.Feeder.Source.C.im), .d (.sl false (g_.Feeder.Buses.map eSBus)), .d (.sl false (g_.Ties.map eSTie))]]) rfl (by simp) rfl (by repeat' first | exact trivial | refine ⟨?_, ?_⟩) ⟨rfl, trivial, rfl, trivial, rfl, trivial, rfl, trivial, rfl, trivial, rfl, trivial, trivial⟩) ?_
            exact hk81 (v48, v49) h
    · have h := if_f h hc67
      refine aw_exit ?_
      refine aw_seq ?_
      refine aw_region ?_
      refine awl_val hτ rfl rfl rfl ?_
      refine awl_val hτ rfl rfl rfl ?_
      refine awl_val hτ rfl rfl rfl ?_
      refine awl_val hτ rfl rfl rfl ?_
      refine awl_val hτ rfl rfl rfl ?_
      refine awl_nil ?_
      refine aw_weak (weak_ofP [] (l := [(4, .d (.sl false (v48.map eInti64))), (5, .d (.int .i64 v49)), (6, .d (.bool true))]) (objs := []) rfl (by simp) rfl (by repeat' first | exact trivial | refine ⟨?_, ?_⟩) ⟨rfl, trivial, rfl, trivial, rfl, trivial, trivial⟩) ?_
      refine aw_ret ?_
      have hr := Option.some.inj h
      subst hr
      exact ret_objs (.inr rfl) [] (objs' := []) (new := []) rfl (by simp) (by simp) rfl (by repeat' first | exact trivial | refine ⟨?_, ?_⟩) rfl rfl (by repeat' first | exact trivial | refine ⟨?_, ?_⟩) (fun h => nomatch h) ⟨rfl, rfl, rfl⟩

def m_laws_r8At_j1 (n : Nat) (code_ : List Int) (k_ : Int) (n_ : Int) : Option Int :=
  (getI code_ k_).bind fun x7 =>
  grd (n_ ≠ 0) <|
  some ((w64 (x7)).tmod n_)
def m_laws_r8At_j2 (n : Nat) (code_ : List Int) (k_ : Int) (n_ : Int) (v12 : Bool) : Option Int :=
  if v12 = true then
    some (0 : Int)
  else
    m_laws_r8At_j1 n code_ k_ n_
def m_laws_r8At (n : Nat) (code_ : List Int) (k_ : Int) (n_ : Int) : Option Int :=
  if n_ ≤ (1 : Int) then
    m_laws_r8At_j2 n code_ k_ n_ true
  else
    m_laws_r8At_j2 n code_ k_ n_ (decide (k_ ≥ (code_.length : Int)))
theorem laws_r8At_ok_fr0 (fr : Bool) (n : Nat) (code_ : List Int) (k_ : Int) (n_ : Int) {r : Int} (h : m_laws_r8At n code_ k_ n_ = some r) : ACall prog fr 10 [.d (.sl false (code_.map eIntu8)), .d (.int .i64 k_), .d (.int .i64 n_)] [] (fun v o new => v = .d (.int .i64 r) ∧ o = [] ∧ new = []) := by
  refine acall_of_aw hτ func10 rfl (by simp) (by simp) ?_
  unfold m_laws_r8At at h
  refine aw_seq ?_
  refine aw_region ?_
  refine awl_val hτ rfl rfl rfl ?_
  refine awl_nil ?_
  refine aw_hk1 (ι := Unit) (fun _ => St.of [(0, .d (.sl false (code_.map eIntu8))), (1, .d (.int .i64 k_)), (2, .d (.int .i64 n_))] [] f10.ntmps 0) (fun _ => m_laws_r8At_j1 n code_ k_ n_ = some r) ?_ (fun hk9 => ?_)
  · rintro ⟨⟩ h
    replace h : m_laws_r8At_j1 n code_ k_ n_ = some r := h
    unfold m_laws_r8At_j1 at h
    refine aw_seq ?_
    refine aw_region ?_
    refine awl_val hτ rfl rfl rfl ?_
    refine awl_val hτ rfl rfl rfl ?_
    refine bnd_elim h fun x7 hx7 h => ?_
    refine awl_elem hτ rfl rfl rfl (getI_some hx7).1 (map_getI hx7) rfl ?_
    refine awl_val hτ rfl rfl rfl ?_
    refine awl_val hτ rfl rfl rfl ?_
    refine awl_val hτ rfl rfl rfl ?_
    refine grd_elim h fun hg8 h => ?_
    refine awl_need hτ rfl rfl rfl hg8 ?_
    refine awl_val hτ rfl rfl rfl ?_
    refine awl_nil ?_
    refine aw_weak (weak_ofP [] (l := [(6, .d (.int .i64 ((w64 (x7)).tmod n_)))]) (objs := []) rfl (by simp) rfl (by repeat' first | exact trivial | refine ⟨?_, ?_⟩) ⟨rfl, trivial, trivial⟩) ?_
    refine aw_ret ?_
    have hr := Option.some.inj h
    subst hr
    exact ret_objs (.inr rfl) [] (objs' := []) (new := []) rfl (by simp) (by simp) rfl (by repeat' first | exact trivial | refine ⟨?_, ?_⟩) rfl rfl (by repeat' first | exact trivial | refine ⟨?_, ?_⟩) (fun _ => ⟨by simp [V.flat, V.flatA, V.flatC, D.flat], flat_nil⟩) ⟨rfl, rfl, rfl⟩
  · refine aw_seq ?_
    refine aw_hk1 (ι := Bool) (fun v12 => St.of [(0, .d (.sl false (code_.map eIntu8))), (1, .d (.int .i64 k_)), (2, .d (.int .i64 n_)), (14, .d (.bool v12))] [] f10.ntmps 0) (fun v12 => m_laws_r8At_j2 n code_ k_ n_ v12 = some r) ?_ (fun hk14 => ?_)
    · rintro v12 h
      replace h : m_laws_r8At_j2 n code_ k_ n_ v12 = some r := h
      unfold m_laws_r8At_j2 at h
      refine aw_cond rfl (fun hc13 => ?_) (fun hc13 => ?_)
      · have h := if_bt h hc13
        refine aw_seq ?_
        refine aw_region ?_
        refine awl_val hτ rfl rfl rfl ?_
        refine awl_nil ?_
        refine aw_weak (weak_ofP [] (l := [(6, .d (.int .i64 (0 : Int)))]) (objs := []) rfl (by simp) rfl (by repeat' first | exact trivial | refine ⟨?_, ?_⟩) ⟨rfl, trivial, trivial⟩) ?_
        refine aw_ret ?_
        have hr := Option.some.inj h
        subst hr
        exact ret_objs (.inr rfl) [] (objs' := []) (new := []) rfl (by simp) (by simp) rfl (by repeat' first | exact trivial | refine ⟨?_, ?_⟩) rfl rfl (by repeat' first | exact trivial | refine ⟨?_, ?_⟩) (fun _ => ⟨by simp [V.flat, V.flatA, V.flatC, D.flat], flat_nil⟩) ⟨rfl, rfl, rfl⟩
      · have h := if_bf h hc13
        refine aw_skip ?_
        refine aw_weak (weak_ofP [] (l := [(0, .d (.sl false (code_.map eIntu8))), (1, .d (.int .i64 k_)), (2, .d (.int .i64 n_))]) (objs := []) rfl (by simp) rfl (by repeat' first | exact trivial | refine ⟨?_, ?_⟩) ⟨rfl, trivial, rfl, trivial, rfl, trivial, trivial⟩) ?_
        exact hk9 () h
    · refine aw_seq ?_
      refine aw_region ?_
      refine awl_val hτ rfl rfl rfl ?_
      refine awl_val hτ rfl rfl rfl ?_
      refine awl_val hτ rfl rfl rfl ?_
      refine awl_split 9 rfl (fun hb15 => ?_) (fun hb15 => ?_)
      · have h := if_t h hb15
        refine awl_skip rfl rfl ?_
        refine awl_skip rfl rfl ?_
        refine awl_skip rfl rfl ?_
        refine awl_skip rfl rfl ?_
        refine awl_val hτ rfl rfl rfl ?_
        refine awl_nil ?_
        refine aw_weak (weak_ofP [] (l := [(0, .d (.sl false (code_.map eIntu8))), (1, .d (.int .i64 k_)), (2, .d (.int .i64 n_)), (14, .d (.bool true))]) (objs := []) rfl (by simp) rfl (by repeat' first | exact trivial | refine ⟨?_, ?_⟩) ⟨rfl, trivial, rfl, trivial, rfl, trivial, rfl, trivial, trivial⟩) ?_
        exact hk14 true h
      · have h := if_f h hb15
        refine awl_val hτ rfl rfl rfl ?_
        refine awl_val hτ rfl rfl rfl ?_
        refine awl_val hτ (v := .d (.int .i64 (code_.length : Int))) rfl rfl (Eq.trans rfl (or_len (f := eIntu8) code_)) ?_
        refine awl_val hτ rfl rfl rfl ?_
        refine awl_val hτ rfl rfl rfl ?_
        refine awl_nil ?_
        refine aw_weak (weak_ofP [] (l := [(0, .d (.sl false (code_.map eIntu8))), (1, .d (.int .i64 k_)), (2, .d (.int .i64 n_)), (14, .d (.bool (decide (k_ ≥ (code_.length : Int)))))]) (objs := []) rfl (by simp) rfl (by repeat' first | exact trivial | refine ⟨?_, ?_⟩) ⟨rfl, trivial, rfl, trivial, rfl, trivial, rfl, trivial, trivial⟩) ?_
        exact hk14 (decide (k_ ≥ (code_.length : Int))) h
theorem laws_r8At_ok (n : Nat) (code_ : List Int) (k_ : Int) (n_ : Int) {r : Int} (h : m_laws_r8At n code_ k_ n_ = some r) : ACall prog false 10 [.d (.sl false (code_.map eIntu8)), .d (.int .i64 k_), .d (.int .i64 n_)] [] (fun v o new => v = .d (.int .i64 r) ∧ o = [] ∧ new = []) := laws_r8At_ok_fr0 false n code_ k_ n_ h
theorem laws_r8At_ok_fr (n : Nat) (code_ : List Int) (k_ : Int) (n_ : Int) {r : Int} (h : m_laws_r8At n code_ k_ n_ = some r) : ACall prog true 10 [.d (.sl false (code_.map eIntu8)), .d (.int .i64 k_), .d (.int .i64 n_)] [] (fun v o new => v = .d (.int .i64 r) ∧ o = [] ∧ new = []) := laws_r8At_ok_fr0 true n code_ k_ n_ h

def m_impl_CustomersLit (n : Nat) (g_ : SGrid) (bus_ : Int) (closed_ : List Int) : Option (Int × Bool) :=
  (m_impl_Grid_closing n g_ bus_ closed_).bind fun x4 =>
  if x4 = true then
    (m_impl_Grid_lit n g_ bus_ closed_).bind fun x6 =>
    some (x6, true)
  else
    some ((0 : Int), false)
theorem impl_CustomersLit_ok_fr0 (fr : Bool) (n : Nat) (g_ : SGrid) (bus_ : Int) (closed_ : List Int) {r : Int × Bool} (h : m_impl_CustomersLit n g_ bus_ closed_ = some r) : ACall prog fr 17 [.agg [.d (.cx .f32 g_.Feeder.Source.A.re g_.Feeder.Source.A.im), .d (.cx .f32 g_.Feeder.Source.B.re g_.Feeder.Source.B.im), .d (.cx .f32 g_.Feeder.Source.C.re g_.Feeder.Source.C.im), .d (.sl false (g_.Feeder.Buses.map eSBus)), .d (.sl false (g_.Ties.map eSTie))], .d (.int .i64 bus_), .d (.sl false (closed_.map eInti64))] [] (fun v o new => v = .tup [.d (.int .i64 r.1), .d (.bool r.2)] ∧ o = [] ∧ new = []) := by
  refine acall_of_aw hτ func17 rfl (by simp) (by simp) ?_
  unfold m_impl_CustomersLit at h
  refine aw_seq ?_
  refine aw_region ?_
  refine awl_valH hτ rfl rfl rfl ?_
  refine awl_val hτ rfl rfl rfl ?_
  refine awl_val hτ rfl rfl rfl ?_
  refine awl_nil ?_
  refine aw_seq ?_
  refine aw_seq ?_
  refine aw_region ?_
  refine awl_val hτ rfl rfl rfl ?_
  refine awl_val hτ rfl rfl rfl ?_
  refine bnd_elim h fun x4 hx4 h => ?_
  refine awl_callP hτ false [0] rfl rfl rfl (enterOk func38 rfl rfl) rfl rfl (by simp) ⟨trivial, trivial, trivial, trivial⟩ (by repeat' first | exact trivial | refine ⟨?_, ?_⟩) (impl_Grid_closing_ok n g_ bus_ closed_ hx4) ?_
  rintro r0 o0 n0 ⟨rfl, rfl, rfl⟩ -
  refine awl_val hτ rfl rfl rfl ?_
  refine awl_nil ?_
  refine aw_weak (weak_ofP [0] (l := [(1, .d (.int .i64 bus_)), (2, .d (.sl false (closed_.map eInti64))), (3, .ptr 0 0), (11, .d (.bool (!x4)))]) (objs := [.box [.d (.cx .f32 g_.Feeder.Source.A.re g_.Feeder.Source.A.im), .d (.cx .f32 g_.Feeder.Source.B.re g_.Feeder.Source.B.im), .d (.cx .f32 g_.Feeder.Source.C.re g_.Feeder.Source.C.im), .d (.sl false (g_.Feeder.Buses.map eSBus)), .d (.sl false (g_.Ties.map eSTie))]]) rfl (by simp) rfl (by repeat' first | exact trivial | refine ⟨?_, ?_⟩) ⟨rfl, trivial, rfl, trivial, rfl, trivial, rfl, trivial, trivial⟩) ?_
  refine aw_cond rfl (fun hc5 => ?_) (fun hc5 => ?_)
  · have hc5 := not_t hc5
    have h := if_bf h hc5
    refine aw_seq ?_
    refine aw_region ?_
    refine awl_val hτ rfl rfl rfl ?_
    refine awl_val hτ rfl rfl rfl ?_
    refine awl_nil ?_
    refine aw_weak (weak_ofP [] (l := [(6, .d (.int .i64 (0 : Int))), (7, .d (.bool false))]) (objs := []) rfl (by simp) rfl (by repeat' first | exact trivial | refine ⟨?_, ?_⟩) ⟨rfl, trivial, rfl, trivial, trivial⟩) ?_
    refine aw_ret ?_
    have hr := Option.some.inj h
    subst hr
    exact ret_objs (.inr rfl) [] (objs' := []) (new := []) rfl (by simp) (by simp) rfl (by repeat' first | exact trivial | refine ⟨?_, ?_⟩) rfl rfl (by repeat' first | exact trivial | refine ⟨?_, ?_⟩) (fun _ => ⟨by simp [V.flat, V.flatA, V.flatC, D.flat], flat_nil⟩) ⟨rfl, rfl, rfl⟩
  · have hc5 := not_f hc5
    have h := if_bt h hc5
    refine aw_skip ?_
    refine aw_seq ?_
    refine aw_region ?_
    refine awl_val hτ rfl rfl rfl ?_
    refine awl_val hτ rfl rfl rfl ?_
    refine bnd_elim h fun x6 hx6 h => ?_
    refine awl_callP hτ false [0] rfl rfl rfl (enterOk func43 rfl rfl) rfl rfl (by simp) ⟨trivial, trivial, trivial, trivial⟩ (by repeat' first | exact trivial | refine ⟨?_, ?_⟩) (impl_Grid_lit_ok n g_ bus_ closed_ hx6) ?_
    rintro r0 o0 n0 ⟨rfl, rfl, rfl⟩ -
    refine awl_val hτ rfl rfl rfl ?_
    refine awl_val hτ rfl rfl rfl ?_
    refine awl_nil ?_
    refine aw_weak (weak_ofP [] (l := [(6, .d (.int .i64 x6)), (7, .d (.bool true))]) (objs := []) rfl (by simp) rfl (by repeat' first | exact trivial | refine ⟨?_, ?_⟩) ⟨rfl, trivial, rfl, trivial, trivial⟩) ?_
    refine aw_ret ?_
    have hr := Option.some.inj h
    subst hr
    exact ret_objs (.inr rfl) [] (objs' := []) (new := []) rfl (by simp) (by simp) rfl (by repeat' first | exact trivial | refine ⟨?_, ?_⟩) rfl rfl (by repeat' first | exact trivial | refine ⟨?_, ?_⟩) (fun _ => ⟨by simp [V.flat, V.flatA, V.flatC, D.flat], flat_nil⟩) ⟨rfl, rfl, rfl⟩
theorem impl_CustomersLit_ok (n : Nat) (g_ : SGrid) (bus_ : Int) (closed_ : List Int) {r : Int × Bool} (h : m_impl_CustomersLit n g_ bus_ closed_ = some r) : ACall prog false 17 [.agg [.d (.cx .f32 g_.Feeder.Source.A.re g_.Feeder.Source.A.im), .d (.cx .f32 g_.Feeder.Source.B.re g_.Feeder.Source.B.im), .d (.cx .f32 g_.Feeder.Source.C.re g_.Feeder.Source.C.im), .d (.sl false (g_.Feeder.Buses.map eSBus)), .d (.sl false (g_.Ties.map eSTie))], .d (.int .i64 bus_), .d (.sl false (closed_.map eInti64))] [] (fun v o new => v = .tup [.d (.int .i64 r.1), .d (.bool r.2)] ∧ o = [] ∧ new = []) := impl_CustomersLit_ok_fr0 false n g_ bus_ closed_ h
theorem impl_CustomersLit_ok_fr (n : Nat) (g_ : SGrid) (bus_ : Int) (closed_ : List Int) {r : Int × Bool} (h : m_impl_CustomersLit n g_ bus_ closed_ = some r) : ACall prog true 17 [.agg [.d (.cx .f32 g_.Feeder.Source.A.re g_.Feeder.Source.A.im), .d (.cx .f32 g_.Feeder.Source.B.re g_.Feeder.Source.B.im), .d (.cx .f32 g_.Feeder.Source.C.re g_.Feeder.Source.C.im), .d (.sl false (g_.Feeder.Buses.map eSBus)), .d (.sl false (g_.Ties.map eSTie))], .d (.int .i64 bus_), .d (.sl false (closed_.map eInti64))] [] (fun v o new => v = .tup [.d (.int .i64 r.1), .d (.bool r.2)] ∧ o = [] ∧ new = []) := impl_CustomersLit_ok_fr0 true n g_ bus_ closed_ h

def m_laws_FnRestored_j3 (n : Nat) (k116 : Int → Option Bool) (v95 : Int) : Option Bool :=
  k116 (w64 (v95 + (1 : Int)))
def m_laws_FnRestored_j5 (n : Nat) (k116 : Int → Option Bool) (v95 : Int) (v158 : Bool) : Option Bool :=
  if v158 = true then
    some false
  else
    m_laws_FnRestored_j3 n k116 v95
def m_laws_FnRestored_j4 (n : Nat) (x58 : SGrid) (x67 : Int) (x68 : List Int × Int × Bool) (k116 : Int → Option Bool) (v95 : Int) (v148 : List Int) : Option Bool :=
  (m_impl_IsPlan n x58 (w64 ((1 : Int) + x67)) v148).bind fun x150 =>
  if x150 = true then
    (m_impl_CustomersLit n x58 (w64 ((1 : Int) + x67)) v148).bind fun x152 =>
    if x152.2 = true then
      if x152.1 > x68.2.1 then
        m_laws_FnRestored_j5 n k116 v95 true
      else
        if x152.1 = x68.2.1 then
          m_laws_FnRestored_j5 n k116 v95 (decide ((v148.length : Int) < (x68.1.length : Int)))
        else
          m_laws_FnRestored_j5 n k116 v95 false
    else
      m_laws_FnRestored_j5 n k116 v95 true
  else
    m_laws_FnRestored_j3 n k116 v95
def m_laws_FnRestored_j7 (n : Nat) (k176 : List Int → Int → Option Bool) (v169 : Int) (v181 : List Int) : Option Bool :=
  k176 v181 (w64 (v169 + (1 : Int)))
def m_laws_FnRestored_l6 (n : Nat) (x58 : SGrid) (x67 : Int) (x68 : List Int × Int × Bool) (k116 : Int → Option Bool) (v95 : Int) : Nat → List Int → Int → Option Bool
  | 0, _, _ => none
  | m175 + 1, v168, v169 =>
    if v169 < (x58.Ties.length : Int) then
      grd (0 ≤ (IntKind.wrap .u64 (v169))) <|
      if (ibits .and .i64 (v95.fdiv (2 ^ min (IntKind.wrap .u64 (v169)).toNat (IntKind.bits .i64))) (1 : Int)) = (1 : Int) then
        grd (room (v168.length + 1) 8) <|
        m_laws_FnRestored_j7 n (m_laws_FnRestored_l6 n x58 x67 x68 k116 v95 m175) v169 (v168 ++ [v169])
      else
        m_laws_FnRestored_j7 n (m_laws_FnRestored_l6 n x58 x67 x68 k116 v95 m175) v169 v168
    else
      m_laws_FnRestored_j4 n x58 x67 x68 k116 v95 v168
def m_laws_FnRestored_l2 (n : Nat) (x58 : SGrid) (x67 : Int) (x68 : List Int × Int × Bool) : Nat → Int → Option Bool
  | 0, _ => none
  | m115 + 1, v95 =>
    grd (0 ≤ (IntKind.wrap .u64 ((x58.Ties.length : Int)))) <|
    if v95 < (w64 ((1 : Int) * 2 ^ min (IntKind.wrap .u64 ((x58.Ties.length : Int))).toNat (IntKind.bits .i64))) then
      m_laws_FnRestored_l6 n x58 x67 x68 (m_laws_FnRestored_l2 n x58 x67 x68 m115) v95 n ([] : List Int) (0 : Int)
    else
      some true
def m_laws_FnRestored_j1 (n : Nat) (x58 : SGrid) (x67 : Int) (x68 : List Int × Int × Bool) : Option Bool :=
  m_laws_FnRestored_l2 n x58 x67 x68 n (0 : Int)
def m_laws_FnRestored_j8 (n : Nat) (x58 : SGrid) (x67 : Int) (x68 : List Int × Int × Bool) (v194 : Bool) : Option Bool :=
  if v194 = true then
    some false
  else
    m_laws_FnRestored_j1 n x58 x67 x68
def m_laws_FnRestored (n : Nat) (code_ : List Int) (more_ : List Int) : Option Bool :=
  (m_laws_r8Long n code_ more_).bind fun x56 =>
  if x56 = true then
    some true
  else
    (m_spec_R8Grid n code_).bind fun x58 =>
    if (x58.Feeder.Buses.length : Int) < (2 : Int) then
      (m_impl_RestoreAfter n x58 (0 : Int)).bind fun x64 =>
      if x64.2.2 = true then
        some false
      else
        (m_impl_ValidGrid n x58).bind fun x66 =>
        some x66
    else
      (m_laws_r8At n more_ (0 : Int) (w64 ((x58.Feeder.Buses.length : Int) - (1 : Int)))).bind fun x67 =>
      (m_impl_RestoreAfter n x58 (w64 ((1 : Int) + x67))).bind fun x68 =>
      (m_impl_CustomersLit n x58 (w64 ((1 : Int) + x67)) x68.1).bind fun x69 =>
      if x68.2.2 = true then
        if x69.2 = true then
          if x69.1 = x68.2.1 then
            (m_impl_IsPlan n x58 (w64 ((1 : Int) + x67)) x68.1).bind fun x200 =>
            if x200 = true then
              (m_impl_IsPlan n x58 (w64 ((1 : Int) + x67)) ([] : List Int)).bind fun x202 =>
              m_laws_FnRestored_j8 n x58 x67 x68 (!x202)
            else
              m_laws_FnRestored_j8 n x58 x67 x68 true
          else
            m_laws_FnRestored_j8 n x58 x67 x68 true
        else
          m_laws_FnRestored_j8 n x58 x67 x68 true
      else
        m_laws_FnRestored_j8 n x58 x67 x68 true
theorem laws_FnRestored_ok_fr0 (fr : Bool) (n : Nat) (code_ : List Int) (more_ : List Int) {r : Bool} (h : m_laws_FnRestored n code_ more_ = some r) : ACall prog fr 5 [.d (.sl false (code_.map eIntu8)), .d (.sl false (more_.map eIntu8))] [] (fun v o new => v = .d (.bool r) ∧ o = [] ∧ new = []) := by
  refine acall_of_aw hτ func5 rfl (by simp) (by simp) ?_
  unfold m_laws_FnRestored at h
  refine aw_seq ?_
  refine aw_region ?_
  refine awl_val hτ rfl rfl rfl ?_
  refine awl_nil ?_
  refine aw_seq ?_
  refine aw_seq ?_
  refine aw_region ?_
  refine awl_val hτ rfl rfl rfl ?_
  refine awl_val hτ rfl rfl rfl ?_
  refine bnd_elim h fun x56 hx56 h => ?_
  refine awl_callP hτ false [] rfl rfl rfl (enterOk func7 rfl rfl) rfl rfl (by simp) ⟨trivial, trivial, trivial⟩ (by repeat' first | exact trivial | refine ⟨?_, ?_⟩) (laws_r8Long_ok n code_ more_ hx56) ?_
  rintro r0 o0 n0 ⟨rfl, rfl, rfl⟩ -
  refine awl_nil ?_
  refine aw_cond rfl (fun hc57 => ?_) (fun hc57 => ?_)
  · have h := if_bt h hc57
    refine aw_seq ?_
    refine aw_region ?_
    refine awl_val hτ rfl rfl rfl ?_
    refine awl_nil ?_
    refine aw_weak (weak_ofP [] (l := [(4, .d (.bool true))]) (objs := []) rfl (by simp) rfl (by repeat' first | exact trivial | refine ⟨?_, ?_⟩) ⟨rfl, trivial, trivial⟩) ?_
    refine aw_ret ?_
    have hr := Option.some.inj h
    subst hr
    exact ret_objs (.inr rfl) [] (objs' := []) (new := []) rfl (by simp) (by simp) rfl (by repeat' first | exact trivial | refine ⟨?_, ?_⟩) rfl rfl (by repeat' first | exact trivial | refine ⟨?_, ?_⟩) (fun _ => ⟨by simp [V.flat, V.flatA, V.flatC, D.flat], flat_nil⟩) ⟨rfl, rfl, rfl⟩
  · have h := if_bf h hc57
    refine aw_skip ?_
    refine aw_seq ?_
    refine aw_region ?_
    refine awl_val hτ rfl rfl rfl ?_
    refine bnd_elim h fun x58 hx58 h => ?_
    refine awl_callP hτ false [] rfl rfl rfl (enterOk func8 rfl rfl) rfl rfl (by simp) ⟨trivial, trivial⟩ (by repeat' first | exact trivial | refine ⟨?_, ?_⟩) (spec_R8Grid_ok n code_ hx58) ?_
    rintro r0 o0 n0 ⟨rfl, rfl, rfl⟩ -
    refine awl_valH hτ rfl rfl rfl ?_
    refine awl_valH hτ rfl rfl rfl ?_
    refine awl_nil ?_
    refine aw_seq ?_
    refine aw_weak (weak_ofP [2, 0, 1] (l := [(1, .d (.sl false (more_.map eIntu8))), (5, .ptr 0 0)]) (objs := [.box [.d (.cx .f32 x58.Feeder.Source.A.re x58.Feeder.Source.A.im), .d (.cx .f32 x58.Feeder.Source.B.re x58.Feeder.Source.B.im), .d (.cx .f32 x58.Feeder.Source.C.re x58.Feeder.Source.C.im), .row 1 x58.Feeder.Buses.length 0 x58.Feeder.Buses.length, .row 2 x58.Ties.length 0 x58.Ties.length], .row 8 (x58.Feeder.Buses.map eSBus), .row 5 (x58.Ties.map eSTie)]) rfl (by simp) rfl (by repeat' first | exact trivial | refine ⟨?_, ?_⟩) ⟨rfl, trivial, rfl, trivial, trivial⟩) ?_
    refine aw_region ?_
    refine awl_val hτ rfl rfl rfl ?_
    refine awl_val hτ rfl rfl rfl ?_
    refine awl_val hτ rfl rfl rfl ?_
    refine awl_need hτ rfl rfl rfl (len_map _) ?_
    refine awl_val hτ rfl rfl rfl ?_
    refine awl_nil ?_
    refine aw_seq ?_
    refine aw_seq ?_
    refine aw_region ?_
    refine awl_val hτ rfl rfl rfl ?_
    refine awl_val hτ rfl rfl rfl ?_
    refine awl_nil ?_
    refine aw_weak (weak_ofP [0, 1, 2] (l := [(1, .d (.sl false (more_.map eIntu8))), (5, .ptr 0 0), (6, .d (.int .i64 (x58.Feeder.Buses.length : Int))), (31, .d (.bool (decide ((x58.Feeder.Buses.length : Int) < (2 : Int)))))]) (objs := [.box [.d (.cx .f32 x58.Feeder.Source.A.re x58.Feeder.Source.A.im), .d (.cx .f32 x58.Feeder.Source.B.re x58.Feeder.Source.B.im), .d (.cx .f32 x58.Feeder.Source.C.re x58.Feeder.Source.C.im), .row 1 x58.Feeder.Buses.length 0 x58.Feeder.Buses.length, .row 2 x58.Ties.length 0 x58.Ties.length], .row 8 (x58.Feeder.Buses.map eSBus), .row 5 (x58.Ties.map eSTie)]) rfl (by simp) rfl (by repeat' first | exact trivial | refine ⟨?_, ?_⟩) ⟨rfl, trivial, rfl, trivial, rfl, trivial, rfl, trivial, trivial⟩) ?_
    refine aw_cond rfl (fun hc63 => ?_) (fun hc63 => ?_)
    · have h := if_t h hc63
      refine aw_seq ?_
      refine aw_region ?_
      refine awl_val hτ rfl rfl rfl ?_
      refine awl_weak (weak_ofP [0] (l := [(5, .ptr 0 0), (33, .agg [.d (.cx .f32 x58.Feeder.Source.A.re x58.Feeder.Source.A.im), .d (.cx .f32 x58.Feeder.Source.B.re x58.Feeder.Source.B.im), .d (.cx .f32 x58.Feeder.Source.C.re x58.Feeder.Source.C.im), .d (.sl false (x58.Feeder.Buses.map eSBus)), .d (.sl false (x58.Ties.map eSTie))])]) (objs := [.box [.d (.cx .f32 x58.Feeder.Source.A.re x58.Feeder.Source.A.im), .d (.cx .f32 x58.Feeder.Source.B.re x58.Feeder.Source.B.im), .d (.cx .f32 x58.Feeder.Source.C.re x58.Feeder.Source.C.im), .d (.sl false (x58.Feeder.Buses.map eSBus)), .d (.sl false (x58.Ties.map eSTie))]]) rfl (by simp) (mapO_cons (exO_box (mapO_cons rfl (mapO_cons rfl (mapO_cons rfl (mapO_cons (exC_view (f := eSBus) x58.Feeder.Buses rfl rfl rfl) (mapO_cons (exC_view (f := eSTie) x58.Ties rfl rfl rfl) mapO_nil)))))) mapO_nil) ⟨⟨trivial, trivial, trivial, (exP_view (f := eSBus) x58.Feeder.Buses rfl rfl rfl), (exP_view (f := eSTie) x58.Ties rfl rfl rfl)⟩, trivial⟩ ⟨rfl, trivial, (exV_agg (mapO_cons rfl (mapO_cons rfl (mapO_cons rfl (mapO_cons (exC_view (f := eSBus) x58.Feeder.Buses rfl rfl rfl) (mapO_cons (exC_view (f := eSTie) x58.Ties rfl rfl rfl) mapO_nil)))))), ⟨trivial, trivial, trivial, (exP_view (f := eSBus) x58.Feeder.Buses rfl rfl rfl), (exP_view (f := eSTie) x58.Ties rfl rfl rfl)⟩, trivial⟩) ?_
      refine bnd_elim h fun x64 hx64 h => ?_
      refine awl_callP hτ false [] rfl rfl rfl (enterOk func23 rfl rfl) rfl rfl (by simp) ⟨(by repeat' first | exact trivial | refine ⟨?_, ?_⟩), trivial, trivial⟩ (by repeat' first | exact trivial | refine ⟨?_, ?_⟩) (impl_RestoreAfter_ok n x58 (0 : Int) hx64) ?_
      rintro r0 o0 n0 ⟨rfl, rfl, rfl⟩ -
      refine awl_val hτ rfl rfl rfl ?_
      refine awl_val hτ rfl rfl rfl ?_
      refine awl_val hτ rfl rfl rfl ?_
      refine awl_val hτ rfl rfl rfl ?_
      refine awl_val hτ rfl rfl rfl ?_
      refine awl_val hτ rfl rfl rfl ?_
      refine awl_val hτ rfl rfl rfl ?_
      refine awl_nil ?_
      refine aw_seq ?_
      refine aw_weak (weak_ofP [0] (l := [(5, .ptr 0 0), (9, .d (.bool x64.2.2))]) (objs := [.box [.d (.cx .f32 x58.Feeder.Source.A.re x58.Feeder.Source.A.im), .d (.cx .f32 x58.Feeder.Source.B.re x58.Feeder.Source.B.im), .d (.cx .f32 x58.Feeder.Source.C.re x58.Feeder.Source.C.im), .d (.sl false (x58.Feeder.Buses.map eSBus)), .d (.sl false (x58.Ties.map eSTie))]]) rfl (by simp) rfl (by repeat' first | exact trivial | refine ⟨?_, ?_⟩) ⟨rfl, trivial, rfl, trivial, trivial⟩) ?_
      refine aw_region ?_
      refine awl_val hτ rfl rfl rfl ?_
      refine awl_val hτ rfl rfl rfl ?_
      refine awl_val hτ rfl rfl rfl ?_
      refine awl_split 40 rfl (fun hb65 => ?_) (fun hb65 => ?_)
      · have hb65 := not_t hb65
        have h := if_bf h hb65
        refine awl_val hτ rfl rfl rfl ?_
        refine bnd_elim h fun x66 hx66 h => ?_
        refine awl_callP hτ false [] rfl rfl rfl (enterOk func9 rfl rfl) rfl rfl (by simp) ⟨(by repeat' first | exact trivial | refine ⟨?_, ?_⟩), trivial⟩ (by repeat' first | exact trivial | refine ⟨?_, ?_⟩) (impl_ValidGrid_ok n x58 hx66) ?_
        rintro r0 o0 n0 ⟨rfl, rfl, rfl⟩ -
        refine awl_val hτ rfl rfl rfl ?_
        refine awl_val hτ rfl rfl rfl ?_
        refine awl_nil ?_
        refine aw_weak (weak_ofP [] (l := [(4, .d (.bool x66))]) (objs := []) rfl (by simp) rfl (by repeat' first | exact trivial | refine ⟨?_, ?_⟩) ⟨rfl, trivial, trivial⟩) ?_
        refine aw_ret ?_
        have hr := Option.some.inj h
        subst hr
        exact ret_objs (.inr rfl) [] (objs' := []) (new := []) rfl (by simp) (by simp) rfl (by repeat' first | exact trivial | refine ⟨?_, ?_⟩) rfl rfl (by repeat' first | exact trivial | refine ⟨?_, ?_⟩) (fun _ => ⟨by simp [V.flat, V.flatA, V.flatC, D.flat], flat_nil⟩) ⟨rfl, rfl, rfl⟩
      · have hb65 := not_f hb65
        have h := if_bt h hb65
        refine awl_skip rfl rfl ?_
        refine awl_skip rfl rfl ?_
        refine awl_val hτ rfl rfl rfl ?_
        refine awl_val hτ rfl rfl rfl ?_
        refine awl_nil ?_
        refine aw_weak (weak_ofP [] (l := [(4, .d (.bool false))]) (objs := []) rfl (by simp) rfl (by repeat' first | exact trivial | refine ⟨?_, ?_⟩) ⟨rfl, trivial, trivial⟩) ?_
        refine aw_ret ?_
        have hr := Option.some.inj h
        subst hr
        exact ret_objs (.inr rfl) [] (objs' := []) (new := []) rfl (by simp) (by simp) rfl (by repeat' first | exact trivial | refine ⟨?_, ?_⟩) rfl rfl (by repeat' first | exact trivial | refine ⟨?_, ?_⟩) (fun _ => ⟨by simp [V.flat, V.flatA, V.flatC, D.flat], flat_nil⟩) ⟨rfl, rfl, rfl⟩
    · have h := if_f h hc63
      refine aw_skip ?_
      refine aw_seq ?_
      refine aw_region ?_
      refine awl_val hτ rfl rfl rfl ?_
      refine awl_val hτ rfl rfl rfl ?_
      refine awl_val hτ rfl rfl rfl ?_
      refine bnd_elim h fun x67 hx67 h => ?_
      refine awl_callP hτ false [] rfl rfl rfl (enterOk func10 rfl rfl) rfl rfl (by simp) ⟨trivial, trivial, trivial, trivial⟩ (by repeat' first | exact trivial | refine ⟨?_, ?_⟩) (laws_r8At_ok n more_ (0 : Int) (w64 ((x58.Feeder.Buses.length : Int) - (1 : Int))) hx67) ?_
      rintro r0 o0 n0 ⟨rfl, rfl, rfl⟩ -
      refine awl_val hτ rfl rfl rfl ?_
      refine awl_val hτ rfl rfl rfl ?_
      refine awl_nil ?_
      refine aw_seq ?_
      refine aw_weak (weak_ofP [0, 1, 2] (l := [(5, .ptr 0 0), (10, .d (.int .i64 (w64 ((1 : Int) + x67))))]) (objs := [.box [.d (.cx .f32 x58.Feeder.Source.A.re x58.Feeder.Source.A.im), .d (.cx .f32 x58.Feeder.Source.B.re x58.Feeder.Source.B.im), .d (.cx .f32 x58.Feeder.Source.C.re x58.Feeder.Source.C.im), .row 1 x58.Feeder.Buses.length 0 x58.Feeder.Buses.length, .row 2 x58.Ties.length 0 x58.Ties.length], .row 8 (x58.Feeder.Buses.map eSBus), .row 5 (x58.Ties.map eSTie)]) rfl (by simp) rfl (by repeat' first | exact trivial | refine ⟨?_, ?_⟩) ⟨rfl, trivial, rfl, trivial, trivial⟩) ?_
      refine aw_region ?_
      refine awl_val hτ rfl rfl rfl ?_
      refine awl_val hτ rfl rfl rfl ?_
      refine awl_weak (weak_ofP [0] (l := [(5, .ptr 0 0), (10, .d (.int .i64 (w64 ((1 : Int) + x67)))), (50, .agg [.d (.cx .f32 x58.Feeder.Source.A.re x58.Feeder.Source.A.im), .d (.cx .f32 x58.Feeder.Source.B.re x58.Feeder.Source.B.im), .d (.cx .f32 x58.Feeder.Source.C.re x58.Feeder.Source.C.im), .d (.sl false (x58.Feeder.Buses.map eSBus)), .d (.sl false (x58.Ties.map eSTie))]), (51, .d (.int .i64 (w64 ((1 : Int) + x67))))]) (objs := [.box [.d (.cx .f32 x58.Feeder.Source.A.re x58.Feeder.Source.A.im), .d (.cx .f32 x58.Feeder.Source.B.re x58.Feeder.Source.B.im), .d (.cx .f32 x58.Feeder.Source.C.re x58.Feeder.Source.C.im), .d (.sl false (x58.Feeder.Buses.map eSBus)), .d (.sl false (x58.Ties.map eSTie))]]) rfl (by simp) (mapO_cons (exO_box (mapO_cons rfl (mapO_cons rfl (mapO_cons rfl (mapO_cons (exC_view (f := eSBus) x58.Feeder.Buses rfl rfl rfl) (mapO_cons (exC_view (f := eSTie) x58.Ties rfl rfl rfl) mapO_nil)))))) mapO_nil) ⟨⟨trivial, trivial, trivial, (exP_view (f := eSBus) x58.Feeder.Buses rfl rfl rfl), (exP_view (f := eSTie) x58.Ties rfl rfl rfl)⟩, trivial⟩ ⟨rfl, trivial, rfl, trivial, (exV_agg (mapO_cons rfl (mapO_cons rfl (mapO_cons rfl (mapO_cons (exC_view (f := eSBus) x58.Feeder.Buses rfl rfl rfl) (mapO_cons (exC_view (f := eSTie) x58.Ties rfl rfl rfl) mapO_nil)))))), ⟨trivial, trivial, trivial, (exP_view (f := eSBus) x58.Feeder.Buses rfl rfl rfl), (exP_view (f := eSTie) x58.Ties rfl rfl rfl)⟩, rfl, trivial, trivial⟩) ?_
      refine bnd_elim h fun x68 hx68 h => ?_
      refine awl_callP hτ false [] rfl rfl rfl (enterOk func23 rfl rfl) rfl rfl (by simp) ⟨(by repeat' first | exact trivial | refine ⟨?_, ?_⟩), trivial, trivial⟩ (by repeat' first | exact trivial | refine ⟨?_, ?_⟩) (impl_RestoreAfter_ok n x58 (w64 ((1 : Int) + x67)) hx68) ?_
      rintro r0 o0 n0 ⟨rfl, rfl, rfl⟩ -
      refine awl_val hτ rfl rfl rfl ?_
      refine awl_val hτ rfl rfl rfl ?_
      refine awl_val hτ rfl rfl rfl ?_
      refine awl_val hτ rfl rfl rfl ?_
      refine awl_val hτ rfl rfl rfl ?_
      refine awl_val hτ rfl rfl rfl ?_
      refine awl_val hτ rfl rfl rfl ?_
      refine awl_nil ?_
      refine aw_seq ?_
      refine aw_weak (weak_ofP [0] (l := [(5, .ptr 0 0), (10, .d (.int .i64 (w64 ((1 : Int) + x67)))), (11, .d (.sl false (x68.1.map eInti64))), (12, .d (.int .i64 x68.2.1)), (13, .d (.bool x68.2.2))]) (objs := [.box [.d (.cx .f32 x58.Feeder.Source.A.re x58.Feeder.Source.A.im), .d (.cx .f32 x58.Feeder.Source.B.re x58.Feeder.Source.B.im), .d (.cx .f32 x58.Feeder.Source.C.re x58.Feeder.Source.C.im), .d (.sl false (x58.Feeder.Buses.map eSBus)), .d (.sl false (x58.Ties.map eSTie))]]) rfl (by simp) rfl (by repeat' first | exact trivial | refine ⟨?_, ?_⟩) ⟨rfl, trivial, rfl, trivial, rfl, trivial, rfl, trivial, rfl, trivial, trivial⟩) ?_
      refine aw_region ?_
      refine awl_val hτ rfl rfl rfl ?_
      refine awl_val hτ rfl rfl rfl ?_
      refine awl_val hτ rfl rfl rfl ?_
      refine bnd_elim h fun x69 hx69 h => ?_
      refine awl_callP hτ false [] rfl rfl rfl (enterOk func17 rfl rfl) rfl rfl (by simp) ⟨(by repeat' first | exact trivial | refine ⟨?_, ?_⟩), trivial, trivial, trivial⟩ (by repeat' first | exact trivial | refine ⟨?_, ?_⟩) (impl_CustomersLit_ok n x58 (w64 ((1 : Int) + x67)) x68.1 hx69) ?_
      rintro r0 o0 n0 ⟨rfl, rfl, rfl⟩ -
      refine awl_val hτ rfl rfl rfl ?_
      refine awl_val hτ rfl rfl rfl ?_
      refine awl_val hτ rfl rfl rfl ?_
      refine awl_val hτ rfl rfl rfl ?_
      refine awl_val hτ rfl rfl rfl ?_
      refine awl_nil ?_
      refine aw_hk1 (ι := Unit) (fun _ => St.of [(5, .ptr 0 0), (10, .d (.int .i64 (w64 ((1 : Int) + x67)))), (11, .d (.sl false (x68.1.map eInti64))), (12, .d (.int .i64 x68.2.1))] [.box [.d (.cx .f32 x58.Feeder.Source.A.re x58.Feeder.Source.A.im), .d (.cx .f32 x58.Feeder.Source.B.re x58.Feeder.Source.B.im), .d (.cx .f32 x58.Feeder.Source.C.re x58.Feeder.Source.C.im), .d (.sl false (x58.Feeder.Buses.map eSBus)), .d (.sl false (x58.Ties.map eSTie))]] f5.ntmps 0) (fun _ => m_laws_FnRestored_j1 n x58 x67 x68 = some r) ?_ (fun hk186 => ?_)
      · rintro ⟨⟩ h
        replace h : m_laws_FnRestored_j1 n x58 x67 x68 = some r := h
        unfold m_laws_FnRestored_j1 at h
        refine aw_seq ?_
        refine aw_seq ?_
        refine aw_region ?_
        refine awl_val hτ rfl rfl rfl ?_
        refine awl_nil ?_
        refine aw_block ?_
        refine aw_loop (ι := Nat × Int) (fun (m115, v95) => St.of [(5, .ptr 0 0), (10, .d (.int .i64 (w64 ((1 : Int) + x67)))), (11, .d (.sl false (x68.1.map eInti64))), (12, .d (.int .i64 x68.2.1)), (16, .d (.int .i64 v95))] [.box [.d (.cx .f32 x58.Feeder.Source.A.re x58.Feeder.Source.A.im), .d (.cx .f32 x58.Feeder.Source.B.re x58.Feeder.Source.B.im), .d (.cx .f32 x58.Feeder.Source.C.re x58.Feeder.Source.C.im), .d (.sl false (x58.Feeder.Buses.map eSBus)), .d (.sl false (x58.Ties.map eSTie))]] f5.ntmps 0) (fun (m115, v95) => m_laws_FnRestored_l2 n x58 x67 x68 m115 v95 = some r) (fun x => x.1) (n, (0 : Int)) h (weak_ofP [0] (l := [(5, .ptr 0 0), (10, .d (.int .i64 (w64 ((1 : Int) + x67)))), (11, .d (.sl false (x68.1.map eInti64))), (12, .d (.int .i64 x68.2.1)), (16, .d (.int .i64 (0 : Int)))]) (objs := [.box [.d (.cx .f32 x58.Feeder.Source.A.re x58.Feeder.Source.A.im), .d (.cx .f32 x58.Feeder.Source.B.re x58.Feeder.Source.B.im), .d (.cx .f32 x58.Feeder.Source.C.re x58.Feeder.Source.C.im), .d (.sl false (x58.Feeder.Buses.map eSBus)), .d (.sl false (x58.Ties.map eSTie))]]) rfl (by simp) rfl (by repeat' first | exact trivial | refine ⟨?_, ?_⟩) ⟨rfl, trivial, rfl, trivial, rfl, trivial, rfl, trivial, rfl, trivial, trivial⟩) ?_
        rintro ⟨m115, v95⟩ h
        replace h : m_laws_FnRestored_l2 n x58 x67 x68 m115 v95 = some r := h
        rcases m115 with _ | m115
        · rw [m_laws_FnRestored_l2] at h; cases h
        rw [m_laws_FnRestored_l2] at h
        refine aw_seq ?_
        refine aw_seq ?_
        refine aw_region ?_
        refine awl_val hτ rfl rfl rfl ?_
        refine awl_val hτ rfl rfl rfl ?_
        refine awl_val hτ rfl rfl rfl ?_
        refine awl_val hτ (v := .d (.int .i64 (x58.Ties.length : Int))) rfl rfl (Eq.trans rfl (or_len (f := eSTie) x58.Ties)) ?_
        refine awl_val hτ rfl rfl rfl ?_
        refine grd_elim h fun hg118 h => ?_
        refine awl_need hτ rfl rfl rfl hg118 ?_
        refine awl_val hτ rfl rfl rfl ?_
        refine awl_nil ?_
        refine aw_weak (weak_ofP [0] (l := [(5, .ptr 0 0), (10, .d (.int .i64 (w64 ((1 : Int) + x67)))), (11, .d (.sl false (x68.1.map eInti64))), (12, .d (.int .i64 x68.2.1)), (16, .d (.int .i64 v95)), (94, .d (.bool (decide (v95 < (w64 ((1 : Int) * 2 ^ min (IntKind.wrap .u64 ((x58.Ties.length : Int))).toNat (IntKind.bits .i64)))))))]) (objs := [.box [.d (.cx .f32 x58.Feeder.Source.A.re x58.Feeder.Source.A.im), .d (.cx .f32 x58.Feeder.Source.B.re x58.Feeder.Source.B.im), .d (.cx .f32 x58.Feeder.Source.C.re x58.Feeder.Source.C.im), .d (.sl false (x58.Feeder.Buses.map eSBus)), .d (.sl false (x58.Ties.map eSTie))]]) rfl (by simp) rfl (by repeat' first | exact trivial | refine ⟨?_, ?_⟩) ⟨rfl, trivial, rfl, trivial, rfl, trivial, rfl, trivial, rfl, trivial, rfl, trivial, trivial⟩) ?_
        refine aw_cond rfl (fun hc119 => ?_) (fun hc119 => ?_)
        · have h := if_t h hc119
          refine aw_skip ?_
          refine aw_hk1 (ι := Unit) (fun _ => St.of [(5, .ptr 0 0), (10, .d (.int .i64 (w64 ((1 : Int) + x67)))), (11, .d (.sl false (x68.1.map eInti64))), (12, .d (.int .i64 x68.2.1)), (16, .d (.int .i64 v95))] [.box [.d (.cx .f32 x58.Feeder.Source.A.re x58.Feeder.Source.A.im), .d (.cx .f32 x58.Feeder.Source.B.re x58.Feeder.Source.B.im), .d (.cx .f32 x58.Feeder.Source.C.re x58.Feeder.Source.C.im), .d (.sl false (x58.Feeder.Buses.map eSBus)), .d (.sl false (x58.Ties.map eSTie))]] f5.ntmps 0) (fun _ => m_laws_FnRestored_j3 n (m_laws_FnRestored_l2 n x58 x67 x68 m115) v95 = some r) ?_ (fun hk137 => ?_)
          · rintro ⟨⟩ h
            replace h : m_laws_FnRestored_j3 n (m_laws_FnRestored_l2 n x58 x67 x68 m115) v95 = some r := h
            unfold m_laws_FnRestored_j3 at h
            refine aw_region ?_
            refine awl_val hτ rfl rfl rfl ?_
            refine awl_val hτ rfl rfl rfl ?_
            refine awl_val hτ rfl rfl rfl ?_
            refine awl_nil ?_
            exact ⟨(m115, (w64 (v95 + (1 : Int)))), h, Nat.lt_succ_self m115, (weak_ofP [0] (l := [(5, .ptr 0 0), (10, .d (.int .i64 (w64 ((1 : Int) + x67)))), (11, .d (.sl false (x68.1.map eInti64))), (12, .d (.int .i64 x68.2.1)), (16, .d (.int .i64 (w64 (v95 + (1 : Int)))))]) (objs := [.box [.d (.cx .f32 x58.Feeder.Source.A.re x58.Feeder.Source.A.im), .d (.cx .f32 x58.Feeder.Source.B.re x58.Feeder.Source.B.im), .d (.cx .f32 x58.Feeder.Source.C.re x58.Feeder.Source.C.im), .d (.sl false (x58.Feeder.Buses.map eSBus)), .d (.sl false (x58.Ties.map eSTie))]]) rfl (by simp) rfl (by repeat' first | exact trivial | refine ⟨?_, ?_⟩) ⟨rfl, trivial, rfl, trivial, rfl, trivial, rfl, trivial, rfl, trivial, trivial⟩)⟩
          · refine aw_seq ?_
            refine aw_block ?_
            refine aw_seq ?_
            refine aw_region ?_
            refine awl_valH hτ rfl rfl rfl ?_
            refine awl_val hτ rfl rfl rfl ?_
            refine awl_nil ?_
            refine aw_hk1 (ι := List Int) (fun v148 => St.of [(5, .ptr 0 0), (10, .d (.int .i64 (w64 ((1 : Int) + x67)))), (11, .d (.sl false (x68.1.map eInti64))), (12, .d (.int .i64 x68.2.1)), (16, .d (.int .i64 v95)), (17, .row 1 v148.length 0 v148.length)] [.box [.d (.cx .f32 x58.Feeder.Source.A.re x58.Feeder.Source.A.im), .d (.cx .f32 x58.Feeder.Source.B.re x58.Feeder.Source.B.im), .d (.cx .f32 x58.Feeder.Source.C.re x58.Feeder.Source.C.im), .d (.sl false (x58.Feeder.Buses.map eSBus)), .d (.sl false (x58.Ties.map eSTie))], .row 1 (v148.map eInti64)] f5.ntmps 0) (fun v148 => m_laws_FnRestored_j4 n x58 x67 x68 (m_laws_FnRestored_l2 n x58 x67 x68 m115) v95 v148 = some r) ?_ (fun hk164 => ?_)
            · rintro v148 h
              replace h : m_laws_FnRestored_j4 n x58 x67 x68 (m_laws_FnRestored_l2 n x58 x67 x68 m115) v95 v148 = some r := h
              unfold m_laws_FnRestored_j4 at h
              refine aw_seq ?_
              refine aw_seq ?_
              refine aw_region ?_
              refine awl_val hτ rfl rfl rfl ?_
              refine awl_val hτ rfl rfl rfl ?_
              refine awl_val hτ rfl rfl rfl ?_
              refine awl_weak (weak_ofP [0, 1] (l := [(5, .ptr 0 0), (10, .d (.int .i64 (w64 ((1 : Int) + x67)))), (11, .d (.sl false (x68.1.map eInti64))), (12, .d (.int .i64 x68.2.1)), (16, .d (.int .i64 v95)), (17, .row 1 v148.length 0 v148.length), (115, .agg [.d (.cx .f32 x58.Feeder.Source.A.re x58.Feeder.Source.A.im), .d (.cx .f32 x58.Feeder.Source.B.re x58.Feeder.Source.B.im), .d (.cx .f32 x58.Feeder.Source.C.re x58.Feeder.Source.C.im), .d (.sl false (x58.Feeder.Buses.map eSBus)), .d (.sl false (x58.Ties.map eSTie))]), (116, .d (.int .i64 (w64 ((1 : Int) + x67)))), (117, .row 1 v148.length 0 v148.length)]) (objs := [.box [.d (.cx .f32 x58.Feeder.Source.A.re x58.Feeder.Source.A.im), .d (.cx .f32 x58.Feeder.Source.B.re x58.Feeder.Source.B.im), .d (.cx .f32 x58.Feeder.Source.C.re x58.Feeder.Source.C.im), .d (.sl false (x58.Feeder.Buses.map eSBus)), .d (.sl false (x58.Ties.map eSTie))], .row 1 (v148.map eInti64)]) rfl (by simp) rfl (by repeat' first | exact trivial | refine ⟨?_, ?_⟩) ⟨rfl, trivial, rfl, trivial, rfl, trivial, rfl, trivial, rfl, trivial, rfl, trivial, rfl, (by repeat' first | exact trivial | refine ⟨?_, ?_⟩), rfl, trivial, rfl, trivial, trivial⟩) ?_
              refine bnd_elim h fun x150 hx150 h => ?_
              refine awl_callP hτ true [] rfl rfl rfl (enterOk func24 rfl rfl) (mapO_cons rfl (mapO_cons rfl (mapO_cons (exV_view (f := eInti64) v148 rfl rfl rfl) mapO_nil))) rfl (by simp) ⟨(by repeat' first | exact trivial | refine ⟨?_, ?_⟩), trivial, (exVP_view (f := eInti64) v148 rfl rfl rfl), trivial⟩ (by repeat' first | exact trivial | refine ⟨?_, ?_⟩) (impl_IsPlan_ok_fr n x58 (w64 ((1 : Int) + x67)) v148 hx150) ?_
              rintro r0 o0 n0 ⟨rfl, rfl, rfl⟩ -
              refine awl_val hτ rfl rfl rfl ?_
              refine awl_nil ?_
              refine aw_cond rfl (fun hc151 => ?_) (fun hc151 => ?_)
              · have hc151 := not_t hc151
                have h := if_bf h hc151
                refine aw_exit ?_
                refine aw_weak (weak_ofP [0] (l := [(5, .ptr 0 0), (10, .d (.int .i64 (w64 ((1 : Int) + x67)))), (11, .d (.sl false (x68.1.map eInti64))), (12, .d (.int .i64 x68.2.1)), (16, .d (.int .i64 v95))]) (objs := [.box [.d (.cx .f32 x58.Feeder.Source.A.re x58.Feeder.Source.A.im), .d (.cx .f32 x58.Feeder.Source.B.re x58.Feeder.Source.B.im), .d (.cx .f32 x58.Feeder.Source.C.re x58.Feeder.Source.C.im), .d (.sl false (x58.Feeder.Buses.map eSBus)), .d (.sl false (x58.Ties.map eSTie))]]) rfl (by simp) rfl (by repeat' first | exact trivial | refine ⟨?_, ?_⟩) ⟨rfl, trivial, rfl, trivial, rfl, trivial, rfl, trivial, rfl, trivial, trivial⟩) ?_
                exact hk137 () h
              · have hc151 := not_f hc151
                have h := if_bt h hc151
                refine aw_skip ?_
                refine aw_seq ?_
                refine aw_region ?_
                refine awl_val hτ rfl rfl rfl ?_
                refine awl_val hτ rfl rfl rfl ?_
                refine awl_val hτ rfl rfl rfl ?_
                refine awl_weak (weak_ofP [0, 1] (l := [(5, .ptr 0 0), (10, .d (.int .i64 (w64 ((1 : Int) + x67)))), (11, .d (.sl false (x68.1.map eInti64))), (12, .d (.int .i64 x68.2.1)), (16, .d (.int .i64 v95)), (17, .row 1 v148.length 0 v148.length), (121, .agg [.d (.cx .f32 x58.Feeder.Source.A.re x58.Feeder.Source.A.im), .d (.cx .f32 x58.Feeder.Source.B.re x58.Feeder.Source.B.im), .d (.cx .f32 x58.Feeder.Source.C.re x58.Feeder.Source.C.im), .d (.sl false (x58.Feeder.Buses.map eSBus)), .d (.sl false (x58.Ties.map eSTie))]), (122, .d (.int .i64 (w64 ((1 : Int) + x67)))), (123, .row 1 v148.length 0 v148.length)]) (objs := [.box [.d (.cx .f32 x58.Feeder.Source.A.re x58.Feeder.Source.A.im), .d (.cx .f32 x58.Feeder.Source.B.re x58.Feeder.Source.B.im), .d (.cx .f32 x58.Feeder.Source.C.re x58.Feeder.Source.C.im), .d (.sl false (x58.Feeder.Buses.map eSBus)), .d (.sl false (x58.Ties.map eSTie))], .row 1 (v148.map eInti64)]) rfl (by simp) rfl (by repeat' first | exact trivial | refine ⟨?_, ?_⟩) ⟨rfl, trivial, rfl, trivial, rfl, trivial, rfl, trivial, rfl, trivial, rfl, trivial, rfl, (by repeat' first | exact trivial | refine ⟨?_, ?_⟩), rfl, trivial, rfl, trivial, trivial⟩) ?_
                refine bnd_elim h fun x152 hx152 h => ?_
                refine awl_callP hτ true [] rfl rfl rfl (enterOk func17 rfl rfl) (mapO_cons rfl (mapO_cons rfl (mapO_cons (exV_view (f := eInti64) v148 rfl rfl rfl) mapO_nil))) rfl (by simp) ⟨(by repeat' first | exact trivial | refine ⟨?_, ?_⟩), trivial, (exVP_view (f := eInti64) v148 rfl rfl rfl), trivial⟩ (by repeat' first | exact trivial | refine ⟨?_, ?_⟩) (impl_CustomersLit_ok_fr n x58 (w64 ((1 : Int) + x67)) v148 hx152) ?_
                rintro r0 o0 n0 ⟨rfl, rfl, rfl⟩ -
                refine awl_val hτ rfl rfl rfl ?_
                refine awl_val hτ rfl rfl rfl ?_
                refine awl_val hτ rfl rfl rfl ?_
                refine awl_val hτ rfl rfl rfl ?_
                refine awl_val hτ rfl rfl rfl ?_
                refine awl_nil ?_
                refine aw_hk1 (ι := Bool) (fun v158 => St.of [(5, .ptr 0 0), (10, .d (.int .i64 (w64 ((1 : Int) + x67)))), (11, .d (.sl false (x68.1.map eInti64))), (12, .d (.int .i64 x68.2.1)), (16, .d (.int .i64 v95)), (145, .d (.bool v158))] [.box [.d (.cx .f32 x58.Feeder.Source.A.re x58.Feeder.Source.A.im), .d (.cx .f32 x58.Feeder.Source.B.re x58.Feeder.Source.B.im), .d (.cx .f32 x58.Feeder.Source.C.re x58.Feeder.Source.C.im), .d (.sl false (x58.Feeder.Buses.map eSBus)), .d (.sl false (x58.Ties.map eSTie))]] f5.ntmps 0) (fun v158 => m_laws_FnRestored_j5 n (m_laws_FnRestored_l2 n x58 x67 x68 m115) v95 v158 = some r) ?_ (fun hk160 => ?_)
                · rintro v158 h
                  replace h : m_laws_FnRestored_j5 n (m_laws_FnRestored_l2 n x58 x67 x68 m115) v95 v158 = some r := h
                  unfold m_laws_FnRestored_j5 at h
                  refine aw_cond rfl (fun hc159 => ?_) (fun hc159 => ?_)
                  · have h := if_bt h hc159
                    refine aw_seq ?_
                    refine aw_region ?_
                    refine awl_val hτ rfl rfl rfl ?_
                    refine awl_nil ?_
                    refine aw_weak (weak_ofP [] (l := [(4, .d (.bool false))]) (objs := []) rfl (by simp) rfl (by repeat' first | exact trivial | refine ⟨?_, ?_⟩) ⟨rfl, trivial, trivial⟩) ?_
                    refine aw_ret ?_
                    have hr := Option.some.inj h
                    subst hr
                    exact ret_objs (.inr rfl) [] (objs' := []) (new := []) rfl (by simp) (by simp) rfl (by repeat' first | exact trivial | refine ⟨?_, ?_⟩) rfl rfl (by repeat' first | exact trivial | refine ⟨?_, ?_⟩) (fun _ => ⟨by simp [V.flat, V.flatA, V.flatC, D.flat], flat_nil⟩) ⟨rfl, rfl, rfl⟩
                  · have h := if_bf h hc159
                    refine aw_skip ?_
                    refine aw_weak (weak_ofP [0] (l := [(5, .ptr 0 0), (10, .d (.int .i64 (w64 ((1 : Int) + x67)))), (11, .d (.sl false (x68.1.map eInti64))), (12, .d (.int .i64 x68.2.1)), (16, .d (.int .i64 v95))]) (objs := [.box [.d (.cx .f32 x58.Feeder.Source.A.re x58.Feeder.Source.A.im), .d (.cx .f32 x58.Feeder.Source.B.re x58.Feeder.Source.B.im), .d (.cx .f32 x58.Feeder.Source.C.re x58.Feeder.Source.C.im), .d (.sl false (x58.Feeder.Buses.map eSBus)), .d (.sl false (x58.Ties.map eSTie))]]) rfl (by simp) rfl (by repeat' first | exact trivial | refine ⟨?_, ?_⟩) ⟨rfl, trivial, rfl, trivial, rfl, trivial, rfl, trivial, rfl, trivial, trivial⟩) ?_
                    exact hk137 () h
                · refine aw_seq ?_
                  refine aw_weak (weak_ofP [0, 1] (l := [(5, .ptr 0 0), (10, .d (.int .i64 (w64 ((1 : Int) + x67)))), (11, .d (.sl false (x68.1.map eInti64))), (12, .d (.int .i64 x68.2.1)), (16, .d (.int .i64 v95)), (17, .row 1 v148.length 0 v148.length), (19, .d (.int .i64 x152.1)), (20, .d (.bool x152.2))]) (objs := [.box [.d (.cx .f32 x58.Feeder.Source.A.re x58.Feeder.Source.A.im), .d (.cx .f32 x58.Feeder.Source.B.re x58.Feeder.Source.B.im), .d (.cx .f32 x58.Feeder.Source.C.re x58.Feeder.Source.C.im), .d (.sl false (x58.Feeder.Buses.map eSBus)), .d (.sl false (x58.Ties.map eSTie))], .row 1 (v148.map eInti64)]) rfl (by simp) rfl (by repeat' first | exact trivial | refine ⟨?_, ?_⟩) ⟨rfl, trivial, rfl, trivial, rfl, trivial, rfl, trivial, rfl, trivial, rfl, trivial, rfl, trivial, rfl, trivial, trivial⟩) ?_
                  refine aw_region ?_
                  refine awl_val hτ rfl rfl rfl ?_
                  refine awl_val hτ rfl rfl rfl ?_
                  refine awl_val hτ rfl rfl rfl ?_
                  refine awl_split 129 rfl (fun hb161 => ?_) (fun hb161 => ?_)
                  · have hb161 := not_t hb161
                    have h := if_bf h hb161
                    refine awl_skip rfl rfl ?_
                    refine awl_skip rfl rfl ?_
                    refine awl_skip rfl rfl ?_
                    refine awl_val hτ rfl rfl rfl ?_
                    refine awl_val hτ rfl rfl rfl ?_
                    refine awl_skip rfl rfl ?_
                    refine awl_skip rfl rfl ?_
                    refine awl_skip rfl rfl ?_
                    refine awl_skip rfl rfl ?_
                    refine awl_weak (weak_ofP [0, 1] (l := [(5, .ptr 0 0), (10, .d (.int .i64 (w64 ((1 : Int) + x67)))), (11, .d (.sl false (x68.1.map eInti64))), (12, .d (.int .i64 x68.2.1)), (16, .d (.int .i64 v95)), (17, .row 1 v148.length 0 v148.length), (134, .d (.bool true)), (138, .und)]) (objs := [.box [.d (.cx .f32 x58.Feeder.Source.A.re x58.Feeder.Source.A.im), .d (.cx .f32 x58.Feeder.Source.B.re x58.Feeder.Source.B.im), .d (.cx .f32 x58.Feeder.Source.C.re x58.Feeder.Source.C.im), .d (.sl false (x58.Feeder.Buses.map eSBus)), .d (.sl false (x58.Ties.map eSTie))], .row 1 (v148.map eInti64)]) rfl (by simp) rfl (by repeat' first | exact trivial | refine ⟨?_, ?_⟩) ⟨rfl, trivial, rfl, trivial, rfl, trivial, rfl, trivial, rfl, trivial, rfl, trivial, rfl, trivial, rfl, trivial, trivial⟩) ?_
                    refine awl_skip rfl rfl ?_
                    refine awl_skip rfl rfl ?_
                    refine awl_skip rfl rfl ?_
                    refine awl_skip rfl rfl ?_
                    refine awl_skip rfl rfl ?_
                    refine awl_skip rfl rfl ?_
                    refine awl_val hτ rfl rfl rfl ?_
                    refine awl_nil ?_
                    refine aw_weak (weak_ofP [0] (l := [(5, .ptr 0 0), (10, .d (.int .i64 (w64 ((1 : Int) + x67)))), (11, .d (.sl false (x68.1.map eInti64))), (12, .d (.int .i64 x68.2.1)), (16, .d (.int .i64 v95)), (145, .d (.bool true))]) (objs := [.box [.d (.cx .f32 x58.Feeder.Source.A.re x58.Feeder.Source.A.im), .d (.cx .f32 x58.Feeder.Source.B.re x58.Feeder.Source.B.im), .d (.cx .f32 x58.Feeder.Source.C.re x58.Feeder.Source.C.im), .d (.sl false (x58.Feeder.Buses.map eSBus)), .d (.sl false (x58.Ties.map eSTie))]]) rfl (by simp) rfl (by repeat' first | exact trivial | refine ⟨?_, ?_⟩) ⟨rfl, trivial, rfl, trivial, rfl, trivial, rfl, trivial, rfl, trivial, rfl, trivial, trivial⟩) ?_
                    exact hk160 true h
                  · have hb161 := not_f hb161
                    have h := if_bt h hb161
                    refine awl_val hτ rfl rfl rfl ?_
                    refine awl_val hτ rfl rfl rfl ?_
                    refine awl_val hτ rfl rfl rfl ?_
                    refine awl_val hτ rfl rfl rfl ?_
                    refine awl_val hτ rfl rfl rfl ?_
                    refine awl_split 134 rfl (fun hb162 => ?_) (fun hb162 => ?_)
                    · have h := if_t h hb162
                      refine awl_skip rfl rfl ?_
                      refine awl_skip rfl rfl ?_
                      refine awl_skip rfl rfl ?_
                      refine awl_skip rfl rfl ?_
                      refine awl_weak (weak_ofP [0, 1] (l := [(5, .ptr 0 0), (10, .d (.int .i64 (w64 ((1 : Int) + x67)))), (11, .d (.sl false (x68.1.map eInti64))), (12, .d (.int .i64 x68.2.1)), (16, .d (.int .i64 v95)), (17, .row 1 v148.length 0 v148.length), (134, .d (.bool true)), (138, .und)]) (objs := [.box [.d (.cx .f32 x58.Feeder.Source.A.re x58.Feeder.Source.A.im), .d (.cx .f32 x58.Feeder.Source.B.re x58.Feeder.Source.B.im), .d (.cx .f32 x58.Feeder.Source.C.re x58.Feeder.Source.C.im), .d (.sl false (x58.Feeder.Buses.map eSBus)), .d (.sl false (x58.Ties.map eSTie))], .row 1 (v148.map eInti64)]) rfl (by simp) rfl (by repeat' first | exact trivial | refine ⟨?_, ?_⟩) ⟨rfl, trivial, rfl, trivial, rfl, trivial, rfl, trivial, rfl, trivial, rfl, trivial, rfl, trivial, rfl, trivial, trivial⟩) ?_
                      refine awl_skip rfl rfl ?_
                      refine awl_skip rfl rfl ?_
                      refine awl_skip rfl rfl ?_
                      refine awl_skip rfl rfl ?_
                      refine awl_skip rfl rfl ?_
                      refine awl_skip rfl rfl ?_
                      refine awl_val hτ rfl rfl rfl ?_
                      refine awl_nil ?_
                      refine aw_weak (weak_ofP [0] (l := [(5, .ptr 0 0), (10, .d (.int .i64 (w64 ((1 : Int) + x67)))), (11, .d (.sl false (x68.1.map eInti64))), (12, .d (.int .i64 x68.2.1)), (16, .d (.int .i64 v95)), (145, .d (.bool true))]) (objs := [.box [.d (.cx .f32 x58.Feeder.Source.A.re x58.Feeder.Source.A.im), .d (.cx .f32 x58.Feeder.Source.B.re x58.Feeder.Source.B.im), .d (.cx .f32 x58.Feeder.Source.C.re x58.Feeder.Source.C.im), .d (.sl false (x58.Feeder.Buses.map eSBus)), .d (.sl false (x58.Ties.map eSTie))]]) rfl (by simp) rfl (by repeat' first | exact trivial | refine ⟨?_, ?_⟩) ⟨rfl, trivial, rfl, trivial, rfl, trivial, rfl, trivial, rfl, trivial, rfl, trivial, trivial⟩) ?_
                      exact hk160 true h
                    · have h := if_f h hb162
                      refine awl_val hτ rfl rfl rfl ?_
                      refine awl_val hτ rfl rfl rfl ?_
                      refine awl_val hτ (v := .d (.bool (decide (x152.1 = x68.2.1)))) rfl rfl (or_ieq _ _) ?_
                      refine awl_val hτ rfl rfl rfl ?_
                      refine awl_weak (weak_ofP [0, 1] (l := [(5, .ptr 0 0), (10, .d (.int .i64 (w64 ((1 : Int) + x67)))), (11, .d (.sl false (x68.1.map eInti64))), (12, .d (.int .i64 x68.2.1)), (16, .d (.int .i64 v95)), (17, .row 1 v148.length 0 v148.length), (134, .d (.bool false)), (138, .d (.bool (decide (x152.1 = x68.2.1))))]) (objs := [.box [.d (.cx .f32 x58.Feeder.Source.A.re x58.Feeder.Source.A.im), .d (.cx .f32 x58.Feeder.Source.B.re x58.Feeder.Source.B.im), .d (.cx .f32 x58.Feeder.Source.C.re x58.Feeder.Source.C.im), .d (.sl false (x58.Feeder.Buses.map eSBus)), .d (.sl false (x58.Ties.map eSTie))], .row 1 (v148.map eInti64)]) rfl (by simp) rfl (by repeat' first | exact trivial | refine ⟨?_, ?_⟩) ⟨rfl, trivial, rfl, trivial, rfl, trivial, rfl, trivial, rfl, trivial, rfl, trivial, rfl, trivial, rfl, trivial, trivial⟩) ?_
                      refine awl_split 138 rfl (fun hb163 => ?_) (fun hb163 => ?_)
                      · have h := if_t h hb163
                        refine awl_val hτ rfl rfl rfl ?_
                        refine awl_need hτ rfl rfl rfl (len_map _) ?_
                        refine awl_val hτ rfl rfl rfl ?_
                        refine awl_val hτ (v := .d (.int .i64 (x68.1.length : Int))) rfl rfl (Eq.trans rfl (or_len (f := eInti64) x68.1)) ?_
                        refine awl_val hτ rfl rfl rfl ?_
                        refine awl_val hτ rfl rfl rfl ?_
                        refine awl_val hτ rfl rfl rfl ?_
                        refine awl_nil ?_
                        refine aw_weak (weak_ofP [0] (l := [(5, .ptr 0 0), (10, .d (.int .i64 (w64 ((1 : Int) + x67)))), (11, .d (.sl false (x68.1.map eInti64))), (12, .d (.int .i64 x68.2.1)), (16, .d (.int .i64 v95)), (145, .d (.bool (decide ((v148.length : Int) < (x68.1.length : Int)))))]) (objs := [.box [.d (.cx .f32 x58.Feeder.Source.A.re x58.Feeder.Source.A.im), .d (.cx .f32 x58.Feeder.Source.B.re x58.Feeder.Source.B.im), .d (.cx .f32 x58.Feeder.Source.C.re x58.Feeder.Source.C.im), .d (.sl false (x58.Feeder.Buses.map eSBus)), .d (.sl false (x58.Ties.map eSTie))]]) rfl (by simp) rfl (by repeat' first | exact trivial | refine ⟨?_, ?_⟩) ⟨rfl, trivial, rfl, trivial, rfl, trivial, rfl, trivial, rfl, trivial, rfl, trivial, trivial⟩) ?_
                        exact hk160 (decide ((v148.length : Int) < (x68.1.length : Int))) h
                      · have h := if_f h hb163
                        refine awl_skip rfl rfl ?_
                        refine awl_skip rfl rfl ?_
                        refine awl_skip rfl rfl ?_
                        refine awl_skip rfl rfl ?_
                        refine awl_skip rfl rfl ?_
                        refine awl_val hτ rfl rfl rfl ?_
                        refine awl_val hτ rfl rfl rfl ?_
                        refine awl_nil ?_
                        refine aw_weak (weak_ofP [0] (l := [(5, .ptr 0 0), (10, .d (.int .i64 (w64 ((1 : Int) + x67)))), (11, .d (.sl false (x68.1.map eInti64))), (12, .d (.int .i64 x68.2.1)), (16, .d (.int .i64 v95)), (145, .d (.bool false))]) (objs := [.box [.d (.cx .f32 x58.Feeder.Source.A.re x58.Feeder.Source.A.im), .d (.cx .f32 x58.Feeder.Source.B.re x58.Feeder.Source.B.im), .d (.cx .f32 x58.Feeder.Source.C.re x58.Feeder.Source.C.im), .d (.sl false (x58.Feeder.Buses.map eSBus)), .d (.sl false (x58.Ties.map eSTie))]]) rfl (by simp) rfl (by repeat' first | exact trivial | refine ⟨?_, ?_⟩) ⟨rfl, trivial, rfl, trivial, rfl, trivial, rfl, trivial, rfl, trivial, rfl, trivial, trivial⟩) ?_
                        exact hk160 false h
            · refine aw_seq ?_
              refine aw_seq ?_
              refine aw_region ?_
              refine awl_val hτ rfl rfl rfl ?_
              refine awl_nil ?_
              refine aw_block ?_
              refine aw_loop (ι := Nat × List Int × Int) (fun (m175, v168, v169) => St.of [(5, .ptr 0 0), (10, .d (.int .i64 (w64 ((1 : Int) + x67)))), (11, .d (.sl false (x68.1.map eInti64))), (12, .d (.int .i64 x68.2.1)), (16, .d (.int .i64 v95)), (17, .row 1 v168.length 0 v168.length), (18, .d (.int .i64 v169))] [.box [.d (.cx .f32 x58.Feeder.Source.A.re x58.Feeder.Source.A.im), .d (.cx .f32 x58.Feeder.Source.B.re x58.Feeder.Source.B.im), .d (.cx .f32 x58.Feeder.Source.C.re x58.Feeder.Source.C.im), .d (.sl false (x58.Feeder.Buses.map eSBus)), .d (.sl false (x58.Ties.map eSTie))], .row 1 (v168.map eInti64)] f5.ntmps 0) (fun (m175, v168, v169) => m_laws_FnRestored_l6 n x58 x67 x68 (m_laws_FnRestored_l2 n x58 x67 x68 m115) v95 m175 v168 v169 = some r) (fun x => x.1) (n, ([] : List Int), (0 : Int)) h (weak_ofP [0, 1] (l := [(5, .ptr 0 0), (10, .d (.int .i64 (w64 ((1 : Int) + x67)))), (11, .d (.sl false (x68.1.map eInti64))), (12, .d (.int .i64 x68.2.1)), (16, .d (.int .i64 v95)), (17, .row 1 (([] : List Int).length) 0 (([] : List Int).length)), (18, .d (.int .i64 (0 : Int)))]) (objs := [.box [.d (.cx .f32 x58.Feeder.Source.A.re x58.Feeder.Source.A.im), .d (.cx .f32 x58.Feeder.Source.B.re x58.Feeder.Source.B.im), .d (.cx .f32 x58.Feeder.Source.C.re x58.Feeder.Source.C.im), .d (.sl false (x58.Feeder.Buses.map eSBus)), .d (.sl false (x58.Ties.map eSTie))], .row 1 (([] : List Int).map eInti64)]) rfl (by simp) rfl (by repeat' first | exact trivial | refine ⟨?_, ?_⟩) ⟨rfl, trivial, rfl, trivial, rfl, trivial, rfl, trivial, rfl, trivial, rfl, trivial, rfl, trivial, trivial⟩) ?_
              rintro ⟨m175, v168, v169⟩ h
              replace h : m_laws_FnRestored_l6 n x58 x67 x68 (m_laws_FnRestored_l2 n x58 x67 x68 m115) v95 m175 v168 v169 = some r := h
              rcases m175 with _ | m175
              · rw [m_laws_FnRestored_l6] at h; cases h
              rw [m_laws_FnRestored_l6] at h
              refine aw_seq ?_
              refine aw_seq ?_
              refine aw_region ?_
              refine awl_val hτ rfl rfl rfl ?_
              refine awl_val hτ rfl rfl rfl ?_
              refine awl_val hτ rfl rfl rfl ?_
              refine awl_val hτ (v := .d (.int .i64 (x58.Ties.length : Int))) rfl rfl (Eq.trans rfl (or_len (f := eSTie) x58.Ties)) ?_
              refine awl_val hτ rfl rfl rfl ?_
              refine awl_nil ?_
              refine aw_cond rfl (fun hc177 => ?_) (fun hc177 => ?_)
              · have h := if_t h hc177
                refine aw_skip ?_
                refine aw_hk1 (ι := List Int) (fun v181 => St.of [(5, .ptr 0 0), (10, .d (.int .i64 (w64 ((1 : Int) + x67)))), (11, .d (.sl false (x68.1.map eInti64))), (12, .d (.int .i64 x68.2.1)), (16, .d (.int .i64 v95)), (17, .row 1 v181.length 0 v181.length), (18, .d (.int .i64 v169))] [.box [.d (.cx .f32 x58.Feeder.Source.A.re x58.Feeder.Source.A.im), .d (.cx .f32 x58.Feeder.Source.B.re x58.Feeder.Source.B.im), .d (.cx .f32 x58.Feeder.Source.C.re x58.Feeder.Source.C.im), .d (.sl false (x58.Feeder.Buses.map eSBus)), .d (.sl false (x58.Ties.map eSTie))], .row 1 (v181.map eInti64)] f5.ntmps 0) (fun v181 => m_laws_FnRestored_j7 n (m_laws_FnRestored_l6 n x58 x67 x68 (m_laws_FnRestored_l2 n x58 x67 x68 m115) v95 m175) v169 v181 = some r) ?_ (fun hk182 => ?_)
                · rintro v181 h
                  replace h : m_laws_FnRestored_j7 n (m_laws_FnRestored_l6 n x58 x67 x68 (m_laws_FnRestored_l2 n x58 x67 x68 m115) v95 m175) v169 v181 = some r := h
                  unfold m_laws_FnRestored_j7 at h
                  refine aw_region ?_
                  refine awl_val hτ rfl rfl rfl ?_
                  refine awl_val hτ rfl rfl rfl ?_
                  refine awl_val hτ rfl rfl rfl ?_
                  refine awl_nil ?_
                  exact ⟨(m175, v181, (w64 (v169 + (1 : Int)))), h, Nat.lt_succ_self m175, (weak_ofP [0, 1] (l := [(5, .ptr 0 0), (10, .d (.int .i64 (w64 ((1 : Int) + x67)))), (11, .d (.sl false (x68.1.map eInti64))), (12, .d (.int .i64 x68.2.1)), (16, .d (.int .i64 v95)), (17, .row 1 v181.length 0 v181.length), (18, .d (.int .i64 (w64 (v169 + (1 : Int)))))]) (objs := [.box [.d (.cx .f32 x58.Feeder.Source.A.re x58.Feeder.Source.A.im), .d (.cx .f32 x58.Feeder.Source.B.re x58.Feeder.Source.B.im), .d (.cx .f32 x58.Feeder.Source.C.re x58.Feeder.Source.C.im), .d (.sl false (x58.Feeder.Buses.map eSBus)), .d (.sl false (x58.Ties.map eSTie))], .row 1 (v181.map eInti64)]) rfl (by simp) rfl (by repeat' first | exact trivial | refine ⟨?_, ?_⟩) ⟨rfl, trivial, rfl, trivial, rfl, trivial, rfl, trivial, rfl, trivial, rfl, trivial, rfl, trivial, trivial⟩)⟩
                · refine aw_seq ?_
                  refine aw_block ?_
                  refine aw_seq ?_
                  refine aw_region ?_
                  refine awl_val hτ rfl rfl rfl ?_
                  refine awl_val hτ rfl rfl rfl ?_
                  refine awl_val hτ rfl rfl rfl ?_
                  refine grd_elim h fun hg183 h => ?_
                  refine awl_need hτ rfl rfl rfl hg183 ?_
                  refine awl_val hτ rfl rfl rfl ?_
                  refine awl_val hτ (v := .d (.bool (decide ((ibits .and .i64 (v95.fdiv (2 ^ min (IntKind.wrap .u64 (v169)).toNat (IntKind.bits .i64))) (1 : Int)) = (1 : Int))))) rfl rfl (or_ieq _ _) ?_
                  refine awl_nil ?_
                  refine aw_weak (weak_ofP [0, 1] (l := [(5, .ptr 0 0), (10, .d (.int .i64 (w64 ((1 : Int) + x67)))), (11, .d (.sl false (x68.1.map eInti64))), (12, .d (.int .i64 x68.2.1)), (16, .d (.int .i64 v95)), (17, .row 1 v168.length 0 v168.length), (18, .d (.int .i64 v169)), (110, .d (.bool (decide ((ibits .and .i64 (v95.fdiv (2 ^ min (IntKind.wrap .u64 (v169)).toNat (IntKind.bits .i64))) (1 : Int)) = (1 : Int)))))]) (objs := [.box [.d (.cx .f32 x58.Feeder.Source.A.re x58.Feeder.Source.A.im), .d (.cx .f32 x58.Feeder.Source.B.re x58.Feeder.Source.B.im), .d (.cx .f32 x58.Feeder.Source.C.re x58.Feeder.Source.C.im), .d (.sl false (x58.Feeder.Buses.map eSBus)), .d (.sl false (x58.Ties.map eSTie))], .row 1 (v168.map eInti64)]) rfl (by simp) rfl (by repeat' first | exact trivial | refine ⟨?_, ?_⟩) ⟨rfl, trivial, rfl, trivial, rfl, trivial, rfl, trivial, rfl, trivial, rfl, trivial, rfl, trivial, rfl, trivial, trivial⟩) ?_
                  refine aw_cond rfl (fun hc184 => ?_) (fun hc184 => ?_)
                  · have h := if_t h hc184
                    refine aw_region ?_
                    refine awl_val hτ rfl rfl rfl ?_
                    refine awl_val hτ rfl rfl rfl ?_
                    refine awl_valH hτ rfl rfl rfl ?_
                    refine grd_elim h fun hg185 h => ?_
                    refine awl_needH hτ rfl rfl (Eq.trans rfl (or_append (f := eInti64) v168 [v169] rfl)) ⟨⟨rfl, Nat.le_of_ble_eq_true rfl⟩, len_map _, rfl, rfl, hg185, by decide, (all1 rfl)⟩ ?_
                    refine awl_val hτ rfl rfl rfl ?_
                    refine awl_nil ?_
                    refine aw_weak (weak_ofP [0, 1] (l := [(5, .ptr 0 0), (10, .d (.int .i64 (w64 ((1 : Int) + x67)))), (11, .d (.sl false (x68.1.map eInti64))), (12, .d (.int .i64 x68.2.1)), (16, .d (.int .i64 v95)), (17, .row 1 ((v168 ++ [v169]).length) 0 ((v168 ++ [v169]).length)), (18, .d (.int .i64 v169))]) (objs := [.box [.d (.cx .f32 x58.Feeder.Source.A.re x58.Feeder.Source.A.im), .d (.cx .f32 x58.Feeder.Source.B.re x58.Feeder.Source.B.im), .d (.cx .f32 x58.Feeder.Source.C.re x58.Feeder.Source.C.im), .d (.sl false (x58.Feeder.Buses.map eSBus)), .d (.sl false (x58.Ties.map eSTie))], .row 1 ((v168 ++ [v169]).map eInti64)]) rfl (by simp) rfl (by repeat' first | exact trivial | refine ⟨?_, ?_⟩) ⟨rfl, trivial, rfl, trivial, rfl, trivial, rfl, trivial, rfl, trivial, rfl, trivial, rfl, trivial, trivial⟩) ?_
                    exact hk182 (v168 ++ [v169]) h
                  · have h := if_f h hc184
                    refine aw_skip ?_
                    refine aw_weak (weak_ofP [0, 1] (l := [(5, .ptr 0 0), (10, .d (.int .i64 (w64 ((1 : Int) + x67)))), (11, .d (.sl false (x68.1.map eInti64))), (12, .d (.int .i64 x68.2.1)), (16, .d (.int .i64 v95)), (17, .row 1 v168.length 0 v168.length), (18, .d (.int .i64 v169))]) (objs := [.box [.d (.cx .f32 x58.Feeder.Source.A.re x58.Feeder.Source.A.im), .d (.cx .f32 x58.Feeder.Source.B.re x58.Feeder.Source.B.im), .d (.cx .f32 x58.Feeder.Source.C.re x58.Feeder.Source.C.im), .d (.sl false (x58.Feeder.Buses.map eSBus)), .d (.sl false (x58.Ties.map eSTie))], .row 1 (v168.map eInti64)]) rfl (by simp) rfl (by repeat' first | exact trivial | refine ⟨?_, ?_⟩) ⟨rfl, trivial, rfl, trivial, rfl, trivial, rfl, trivial, rfl, trivial, rfl, trivial, rfl, trivial, trivial⟩) ?_
                    exact hk182 v168 h
              · have h := if_f h hc177
                refine aw_exit ?_
                refine aw_weak (weak_ofP [0, 1] (l := [(5, .ptr 0 0), (10, .d (.int .i64 (w64 ((1 : Int) + x67)))), (11, .d (.sl false (x68.1.map eInti64))), (12, .d (.int .i64 x68.2.1)), (16, .d (.int .i64 v95)), (17, .row 1 v168.length 0 v168.length)]) (objs := [.box [.d (.cx .f32 x58.Feeder.Source.A.re x58.Feeder.Source.A.im), .d (.cx .f32 x58.Feeder.Source.B.re x58.Feeder.Source.B.im), .d (.cx .f32 x58.Feeder.Source.C.re x58.Feeder.Source.C.im), .d (.sl false (x58.Feeder.Buses.map eSBus)), .d (.sl false (x58.Ties.map eSTie))], .row 1 (v168.map eInti64)]) rfl (by simp) rfl (by repeat' first | exact trivial | refine ⟨?_, ?_⟩) ⟨rfl, trivial, rfl, trivial, rfl, trivial, rfl, trivial, rfl, trivial, rfl, trivial, trivial⟩) ?_
                exact hk164 v168 h
        · have h := if_f h hc119
          refine aw_exit ?_
          refine aw_seq ?_
          refine aw_region ?_
          refine awl_val hτ rfl rfl rfl ?_
          refine awl_nil ?_
          refine aw_weak (weak_ofP [] (l := [(4, .d (.bool true))]) (objs := []) rfl (by simp) rfl (by repeat' first | exact trivial | refine ⟨?_, ?_⟩) ⟨rfl, trivial, trivial⟩) ?_
          refine aw_ret ?_
          have hr := Option.some.inj h
          subst hr
          exact ret_objs (.inr rfl) [] (objs' := []) (new := []) rfl (by simp) (by simp) rfl (by repeat' first | exact trivial | refine ⟨?_, ?_⟩) rfl rfl (by repeat' first | exact trivial | refine ⟨?_, ?_⟩) (fun _ => ⟨by simp [V.flat, V.flatA, V.flatC, D.flat], flat_nil⟩) ⟨rfl, rfl, rfl⟩
      · refine aw_seq ?_
        refine aw_hk1 (ι := Bool) (fun v194 => St.of [(5, .ptr 0 0), (10, .d (.int .i64 (w64 ((1 : Int) + x67)))), (11, .d (.sl false (x68.1.map eInti64))), (12, .d (.int .i64 x68.2.1)), (87, .d (.bool v194))] [.box [.d (.cx .f32 x58.Feeder.Source.A.re x58.Feeder.Source.A.im), .d (.cx .f32 x58.Feeder.Source.B.re x58.Feeder.Source.B.im), .d (.cx .f32 x58.Feeder.Source.C.re x58.Feeder.Source.C.im), .d (.sl false (x58.Feeder.Buses.map eSBus)), .d (.sl false (x58.Ties.map eSTie))]] f5.ntmps 0) (fun v194 => m_laws_FnRestored_j8 n x58 x67 x68 v194 = some r) ?_ (fun hk196 => ?_)
        · rintro v194 h
          replace h : m_laws_FnRestored_j8 n x58 x67 x68 v194 = some r := h
          unfold m_laws_FnRestored_j8 at h
          refine aw_cond rfl (fun hc195 => ?_) (fun hc195 => ?_)
          · have h := if_bt h hc195
            refine aw_seq ?_
            refine aw_region ?_
            refine awl_val hτ rfl rfl rfl ?_
            refine awl_nil ?_
            refine aw_weak (weak_ofP [] (l := [(4, .d (.bool false))]) (objs := []) rfl (by simp) rfl (by repeat' first | exact trivial | refine ⟨?_, ?_⟩) ⟨rfl, trivial, trivial⟩) ?_
            refine aw_ret ?_
            have hr := Option.some.inj h
            subst hr
            exact ret_objs (.inr rfl) [] (objs' := []) (new := []) rfl (by simp) (by simp) rfl (by repeat' first | exact trivial | refine ⟨?_, ?_⟩) rfl rfl (by repeat' first | exact trivial | refine ⟨?_, ?_⟩) (fun _ => ⟨by simp [V.flat, V.flatA, V.flatC, D.flat], flat_nil⟩) ⟨rfl, rfl, rfl⟩
          · have h := if_bf h hc195
            refine aw_skip ?_
            refine aw_weak (weak_ofP [0] (l := [(5, .ptr 0 0), (10, .d (.int .i64 (w64 ((1 : Int) + x67)))), (11, .d (.sl false (x68.1.map eInti64))), (12, .d (.int .i64 x68.2.1))]) (objs := [.box [.d (.cx .f32 x58.Feeder.Source.A.re x58.Feeder.Source.A.im), .d (.cx .f32 x58.Feeder.Source.B.re x58.Feeder.Source.B.im), .d (.cx .f32 x58.Feeder.Source.C.re x58.Feeder.Source.C.im), .d (.sl false (x58.Feeder.Buses.map eSBus)), .d (.sl false (x58.Ties.map eSTie))]]) rfl (by simp) rfl (by repeat' first | exact trivial | refine ⟨?_, ?_⟩) ⟨rfl, trivial, rfl, trivial, rfl, trivial, rfl, trivial, trivial⟩) ?_
            exact hk186 () h
        · refine aw_seq ?_
          refine aw_weak (weak_ofP [0] (l := [(5, .ptr 0 0), (10, .d (.int .i64 (w64 ((1 : Int) + x67)))), (11, .d (.sl false (x68.1.map eInti64))), (12, .d (.int .i64 x68.2.1)), (13, .d (.bool x68.2.2)), (14, .d (.int .i64 x69.1)), (15, .d (.bool x69.2))]) (objs := [.box [.d (.cx .f32 x58.Feeder.Source.A.re x58.Feeder.Source.A.im), .d (.cx .f32 x58.Feeder.Source.B.re x58.Feeder.Source.B.im), .d (.cx .f32 x58.Feeder.Source.C.re x58.Feeder.Source.C.im), .d (.sl false (x58.Feeder.Buses.map eSBus)), .d (.sl false (x58.Ties.map eSTie))]]) rfl (by simp) rfl (by repeat' first | exact trivial | refine ⟨?_, ?_⟩) ⟨rfl, trivial, rfl, trivial, rfl, trivial, rfl, trivial, rfl, trivial, rfl, trivial, rfl, trivial, trivial⟩) ?_
          refine aw_region ?_
          refine awl_val hτ rfl rfl rfl ?_
          refine awl_val hτ rfl rfl rfl ?_
          refine awl_val hτ rfl rfl rfl ?_
          refine awl_split 65 rfl (fun hb197 => ?_) (fun hb197 => ?_)
          · have hb197 := not_t hb197
            have h := if_bf h hb197
            refine awl_skip rfl rfl ?_
            refine awl_skip rfl rfl ?_
            refine awl_val hτ rfl rfl rfl ?_
            refine awl_val hτ rfl rfl rfl ?_
            refine awl_skip rfl rfl ?_
            refine awl_skip rfl rfl ?_
            refine awl_skip rfl rfl ?_
            refine awl_val hτ rfl rfl rfl ?_
            refine awl_val hτ rfl rfl rfl ?_
            refine awl_weak (weak_ofP [0] (l := [(5, .ptr 0 0), (10, .d (.int .i64 (w64 ((1 : Int) + x67)))), (11, .d (.sl false (x68.1.map eInti64))), (12, .d (.int .i64 x68.2.1)), (74, .d (.bool true))]) (objs := [.box [.d (.cx .f32 x58.Feeder.Source.A.re x58.Feeder.Source.A.im), .d (.cx .f32 x58.Feeder.Source.B.re x58.Feeder.Source.B.im), .d (.cx .f32 x58.Feeder.Source.C.re x58.Feeder.Source.C.im), .d (.sl false (x58.Feeder.Buses.map eSBus)), .d (.sl false (x58.Ties.map eSTie))]]) rfl (by simp) rfl (by repeat' first | exact trivial | refine ⟨?_, ?_⟩) ⟨rfl, trivial, rfl, trivial, rfl, trivial, rfl, trivial, rfl, trivial, trivial⟩) ?_
            refine awl_skip rfl rfl ?_
            refine awl_skip rfl rfl ?_
            refine awl_skip rfl rfl ?_
            refine awl_skip rfl rfl ?_
            refine awl_skip rfl rfl ?_
            refine awl_val hτ rfl rfl rfl ?_
            refine awl_val hτ rfl rfl rfl ?_
            refine awl_skip rfl rfl ?_
            refine awl_skip rfl rfl ?_
            refine awl_skip rfl rfl ?_
            refine awl_skip rfl rfl ?_
            refine awl_skip rfl rfl ?_
            refine awl_weak (weak_ofP [0] (l := [(5, .ptr 0 0), (10, .d (.int .i64 (w64 ((1 : Int) + x67)))), (11, .d (.sl false (x68.1.map eInti64))), (12, .d (.int .i64 x68.2.1)), (81, .d (.bool true)), (86, .und)]) (objs := [.box [.d (.cx .f32 x58.Feeder.Source.A.re x58.Feeder.Source.A.im), .d (.cx .f32 x58.Feeder.Source.B.re x58.Feeder.Source.B.im), .d (.cx .f32 x58.Feeder.Source.C.re x58.Feeder.Source.C.im), .d (.sl false (x58.Feeder.Buses.map eSBus)), .d (.sl false (x58.Ties.map eSTie))]]) rfl (by simp) rfl (by repeat' first | exact trivial | refine ⟨?_, ?_⟩) ⟨rfl, trivial, rfl, trivial, rfl, trivial, rfl, trivial, rfl, trivial, rfl, trivial, trivial⟩) ?_
            refine awl_val hτ rfl rfl rfl ?_
            refine awl_nil ?_
            refine aw_weak (weak_ofP [0] (l := [(5, .ptr 0 0), (10, .d (.int .i64 (w64 ((1 : Int) + x67)))), (11, .d (.sl false (x68.1.map eInti64))), (12, .d (.int .i64 x68.2.1)), (87, .d (.bool true))]) (objs := [.box [.d (.cx .f32 x58.Feeder.Source.A.re x58.Feeder.Source.A.im), .d (.cx .f32 x58.Feeder.Source.B.re x58.Feeder.Source.B.im), .d (.cx .f32 x58.Feeder.Source.C.re x58.Feeder.Source.C.im), .d (.sl false (x58.Feeder.Buses.map eSBus)), .d (.sl false (x58.Ties.map eSTie))]]) rfl (by simp) rfl (by repeat' first | exact trivial | refine ⟨?_, ?_⟩) ⟨rfl, trivial, rfl, trivial, rfl, trivial, rfl, trivial, rfl, trivial, trivial⟩) ?_
            exact hk196 true h
          · have hb197 := not_f hb197
            have h := if_bt h hb197
            refine awl_val hτ rfl rfl rfl ?_
            refine awl_val hτ rfl rfl rfl ?_
            refine awl_val hτ rfl rfl rfl ?_
            refine awl_val hτ rfl rfl rfl ?_
            refine awl_split 69 rfl (fun hb198 => ?_) (fun hb198 => ?_)
            · have hb198 := not_t hb198
              have h := if_bf h hb198
              refine awl_skip rfl rfl ?_
              refine awl_skip rfl rfl ?_
              refine awl_skip rfl rfl ?_
              refine awl_val hτ rfl rfl rfl ?_
              refine awl_val hτ rfl rfl rfl ?_
              refine awl_weak (weak_ofP [0] (l := [(5, .ptr 0 0), (10, .d (.int .i64 (w64 ((1 : Int) + x67)))), (11, .d (.sl false (x68.1.map eInti64))), (12, .d (.int .i64 x68.2.1)), (74, .d (.bool true))]) (objs := [.box [.d (.cx .f32 x58.Feeder.Source.A.re x58.Feeder.Source.A.im), .d (.cx .f32 x58.Feeder.Source.B.re x58.Feeder.Source.B.im), .d (.cx .f32 x58.Feeder.Source.C.re x58.Feeder.Source.C.im), .d (.sl false (x58.Feeder.Buses.map eSBus)), .d (.sl false (x58.Ties.map eSTie))]]) rfl (by simp) rfl (by repeat' first | exact trivial | refine ⟨?_, ?_⟩) ⟨rfl, trivial, rfl, trivial, rfl, trivial, rfl, trivial, rfl, trivial, trivial⟩) ?_
              refine awl_skip rfl rfl ?_
              refine awl_skip rfl rfl ?_
              refine awl_skip rfl rfl ?_
              refine awl_skip rfl rfl ?_
              refine awl_skip rfl rfl ?_
              refine awl_val hτ rfl rfl rfl ?_
              refine awl_val hτ rfl rfl rfl ?_
              refine awl_skip rfl rfl ?_
              refine awl_skip rfl rfl ?_
              refine awl_skip rfl rfl ?_
              refine awl_skip rfl rfl ?_
              refine awl_skip rfl rfl ?_
              refine awl_weak (weak_ofP [0] (l := [(5, .ptr 0 0), (10, .d (.int .i64 (w64 ((1 : Int) + x67)))), (11, .d (.sl false (x68.1.map eInti64))), (12, .d (.int .i64 x68.2.1)), (81, .d (.bool true)), (86, .und)]) (objs := [.box [.d (.cx .f32 x58.Feeder.Source.A.re x58.Feeder.Source.A.im), .d (.cx .f32 x58.Feeder.Source.B.re x58.Feeder.Source.B.im), .d (.cx .f32 x58.Feeder.Source.C.re x58.Feeder.Source.C.im), .d (.sl false (x58.Feeder.Buses.map eSBus)), .d (.sl false (x58.Ties.map eSTie))]]) rfl (by simp) rfl (by repeat' first | exact trivial | refine ⟨?_, ?_⟩) ⟨rfl, trivial, rfl, trivial, rfl, trivial, rfl, trivial, rfl, trivial, rfl, trivial, trivial⟩) ?_
              refine awl_val hτ rfl rfl rfl ?_
              refine awl_nil ?_
              refine aw_weak (weak_ofP [0] (l := [(5, .ptr 0 0), (10, .d (.int .i64 (w64 ((1 : Int) + x67)))), (11, .d (.sl false (x68.1.map eInti64))), (12, .d (.int .i64 x68.2.1)), (87, .d (.bool true))]) (objs := [.box [.d (.cx .f32 x58.Feeder.Source.A.re x58.Feeder.Source.A.im), .d (.cx .f32 x58.Feeder.Source.B.re x58.Feeder.Source.B.im), .d (.cx .f32 x58.Feeder.Source.C.re x58.Feeder.Source.C.im), .d (.sl false (x58.Feeder.Buses.map eSBus)), .d (.sl false (x58.Ties.map eSTie))]]) rfl (by simp) rfl (by repeat' first | exact trivial | refine ⟨?_, ?_⟩) ⟨rfl, trivial, rfl, trivial, rfl, trivial, rfl, trivial, rfl, trivial, trivial⟩) ?_
              exact hk196 true h
            · have hb198 := not_f hb198
              have h := if_bt h hb198
              refine awl_val hτ rfl rfl rfl ?_
              refine awl_val hτ rfl rfl rfl ?_
              refine awl_val hτ (v := .d (.bool (!(decide (x69.1 = x68.2.1))))) rfl rfl (or_ine _ _) ?_
              refine awl_val hτ rfl rfl rfl ?_
              refine awl_val hτ rfl rfl rfl ?_
              refine awl_weak (weak_ofP [0] (l := [(5, .ptr 0 0), (10, .d (.int .i64 (w64 ((1 : Int) + x67)))), (11, .d (.sl false (x68.1.map eInti64))), (12, .d (.int .i64 x68.2.1)), (74, .d (.bool (!(decide (x69.1 = x68.2.1)))))]) (objs := [.box [.d (.cx .f32 x58.Feeder.Source.A.re x58.Feeder.Source.A.im), .d (.cx .f32 x58.Feeder.Source.B.re x58.Feeder.Source.B.im), .d (.cx .f32 x58.Feeder.Source.C.re x58.Feeder.Source.C.im), .d (.sl false (x58.Feeder.Buses.map eSBus)), .d (.sl false (x58.Ties.map eSTie))]]) rfl (by simp) rfl (by repeat' first | exact trivial | refine ⟨?_, ?_⟩) ⟨rfl, trivial, rfl, trivial, rfl, trivial, rfl, trivial, rfl, trivial, trivial⟩) ?_
              refine awl_split 74 rfl (fun hb199 => ?_) (fun hb199 => ?_)
              · have hb199 := not_t hb199
                have h := if_f h hb199
                refine awl_skip rfl rfl ?_
                refine awl_skip rfl rfl ?_
                refine awl_skip rfl rfl ?_
                refine awl_skip rfl rfl ?_
                refine awl_skip rfl rfl ?_
                refine awl_val hτ rfl rfl rfl ?_
                refine awl_val hτ rfl rfl rfl ?_
                refine awl_skip rfl rfl ?_
                refine awl_skip rfl rfl ?_
                refine awl_skip rfl rfl ?_
                refine awl_skip rfl rfl ?_
                refine awl_skip rfl rfl ?_
                refine awl_weak (weak_ofP [0] (l := [(5, .ptr 0 0), (10, .d (.int .i64 (w64 ((1 : Int) + x67)))), (11, .d (.sl false (x68.1.map eInti64))), (12, .d (.int .i64 x68.2.1)), (81, .d (.bool true)), (86, .und)]) (objs := [.box [.d (.cx .f32 x58.Feeder.Source.A.re x58.Feeder.Source.A.im), .d (.cx .f32 x58.Feeder.Source.B.re x58.Feeder.Source.B.im), .d (.cx .f32 x58.Feeder.Source.C.re x58.Feeder.Source.C.im), .d (.sl false (x58.Feeder.Buses.map eSBus)), .d (.sl false (x58.Ties.map eSTie))]]) rfl (by simp) rfl (by repeat' first | exact trivial | refine ⟨?_, ?_⟩) ⟨rfl, trivial, rfl, trivial, rfl, trivial, rfl, trivial, rfl, trivial, rfl, trivial, trivial⟩) ?_
                refine awl_val hτ rfl rfl rfl ?_
                refine awl_nil ?_
                refine aw_weak (weak_ofP [0] (l := [(5, .ptr 0 0), (10, .d (.int .i64 (w64 ((1 : Int) + x67)))), (11, .d (.sl false (x68.1.map eInti64))), (12, .d (.int .i64 x68.2.1)), (87, .d (.bool true))]) (objs := [.box [.d (.cx .f32 x58.Feeder.Source.A.re x58.Feeder.Source.A.im), .d (.cx .f32 x58.Feeder.Source.B.re x58.Feeder.Source.B.im), .d (.cx .f32 x58.Feeder.Source.C.re x58.Feeder.Source.C.im), .d (.sl false (x58.Feeder.Buses.map eSBus)), .d (.sl false (x58.Ties.map eSTie))]]) rfl (by simp) rfl (by repeat' first | exact trivial | refine ⟨?_, ?_⟩) ⟨rfl, trivial, rfl, trivial, rfl, trivial, rfl, trivial, rfl, trivial, trivial⟩) ?_
                exact hk196 true h
              · have hb199 := not_f hb199
                have h := if_t h hb199
                refine awl_val hτ rfl rfl rfl ?_
                refine awl_val hτ rfl rfl rfl ?_
                refine awl_val hτ rfl rfl rfl ?_
                refine bnd_elim h fun x200 hx200 h => ?_
                refine awl_callP hτ false [] rfl rfl rfl (enterOk func24 rfl rfl) rfl rfl (by simp) ⟨(by repeat' first | exact trivial | refine ⟨?_, ?_⟩), trivial, trivial, trivial⟩ (by repeat' first | exact trivial | refine ⟨?_, ?_⟩) (impl_IsPlan_ok n x58 (w64 ((1 : Int) + x67)) x68.1 hx200) ?_
                rintro r0 o0 n0 ⟨rfl, rfl, rfl⟩ -
                refine awl_val hτ rfl rfl rfl ?_
                refine awl_val hτ rfl rfl rfl ?_
                refine awl_val hτ rfl rfl rfl ?_
                refine awl_split 81 rfl (fun hb201 => ?_) (fun hb201 => ?_)
                · have hb201 := not_t hb201
                  have h := if_bf h hb201
                  refine awl_skip rfl rfl ?_
                  refine awl_skip rfl rfl ?_
                  refine awl_skip rfl rfl ?_
                  refine awl_skip rfl rfl ?_
                  refine awl_skip rfl rfl ?_
                  refine awl_weak (weak_ofP [0] (l := [(5, .ptr 0 0), (10, .d (.int .i64 (w64 ((1 : Int) + x67)))), (11, .d (.sl false (x68.1.map eInti64))), (12, .d (.int .i64 x68.2.1)), (81, .d (.bool true)), (86, .und)]) (objs := [.box [.d (.cx .f32 x58.Feeder.Source.A.re x58.Feeder.Source.A.im), .d (.cx .f32 x58.Feeder.Source.B.re x58.Feeder.Source.B.im), .d (.cx .f32 x58.Feeder.Source.C.re x58.Feeder.Source.C.im), .d (.sl false (x58.Feeder.Buses.map eSBus)), .d (.sl false (x58.Ties.map eSTie))]]) rfl (by simp) rfl (by repeat' first | exact trivial | refine ⟨?_, ?_⟩) ⟨rfl, trivial, rfl, trivial, rfl, trivial, rfl, trivial, rfl, trivial, rfl, trivial, trivial⟩) ?_
                  refine awl_val hτ rfl rfl rfl ?_
                  refine awl_nil ?_
                  refine aw_weak (weak_ofP [0] (l := [(5, .ptr 0 0), (10, .d (.int .i64 (w64 ((1 : Int) + x67)))), (11, .d (.sl false (x68.1.map eInti64))), (12, .d (.int .i64 x68.2.1)), (87, .d (.bool true))]) (objs := [.box [.d (.cx .f32 x58.Feeder.Source.A.re x58.Feeder.Source.A.im), .d (.cx .f32 x58.Feeder.Source.B.re x58.Feeder.Source.B.im), .d (.cx .f32 x58.Feeder.Source.C.re x58.Feeder.Source.C.im), .d (.sl false (x58.Feeder.Buses.map eSBus)), .d (.sl false (x58.Ties.map eSTie))]]) rfl (by simp) rfl (by repeat' first | exact trivial | refine ⟨?_, ?_⟩) ⟨rfl, trivial, rfl, trivial, rfl, trivial, rfl, trivial, rfl, trivial, trivial⟩) ?_
                  exact hk196 true h
                · have hb201 := not_f hb201
                  have h := if_bt h hb201
                  refine awl_val hτ rfl rfl rfl ?_
                  refine awl_val hτ rfl rfl rfl ?_
                  refine awl_valH hτ rfl rfl rfl ?_
                  refine awl_weak (weak_ofP [0, 1] (l := [(5, .ptr 0 0), (10, .d (.int .i64 (w64 ((1 : Int) + x67)))), (11, .d (.sl false (x68.1.map eInti64))), (12, .d (.int .i64 x68.2.1)), (81, .d (.bool false)), (82, .agg [.d (.cx .f32 x58.Feeder.Source.A.re x58.Feeder.Source.A.im), .d (.cx .f32 x58.Feeder.Source.B.re x58.Feeder.Source.B.im), .d (.cx .f32 x58.Feeder.Source.C.re x58.Feeder.Source.C.im), .d (.sl false (x58.Feeder.Buses.map eSBus)), .d (.sl false (x58.Ties.map eSTie))]), (83, .d (.int .i64 (w64 ((1 : Int) + x67)))), (84, .row 1 (([] : List Int).length) 0 (([] : List Int).length))]) (objs := [.box [.d (.cx .f32 x58.Feeder.Source.A.re x58.Feeder.Source.A.im), .d (.cx .f32 x58.Feeder.Source.B.re x58.Feeder.Source.B.im), .d (.cx .f32 x58.Feeder.Source.C.re x58.Feeder.Source.C.im), .d (.sl false (x58.Feeder.Buses.map eSBus)), .d (.sl false (x58.Ties.map eSTie))], .row 1 (([] : List Int).map eInti64)]) rfl (by simp) rfl (by repeat' first | exact trivial | refine ⟨?_, ?_⟩) ⟨rfl, trivial, rfl, trivial, rfl, trivial, rfl, trivial, rfl, trivial, rfl, (by repeat' first | exact trivial | refine ⟨?_, ?_⟩), rfl, trivial, rfl, trivial, trivial⟩) ?_
                  refine bnd_elim h fun x202 hx202 h => ?_
                  refine awl_callP hτ true [] rfl rfl rfl (enterOk func24 rfl rfl) (mapO_cons rfl (mapO_cons rfl (mapO_cons (exV_view (f := eInti64) ([] : List Int) rfl rfl rfl) mapO_nil))) rfl (by simp) ⟨(by repeat' first | exact trivial | refine ⟨?_, ?_⟩), trivial, (exVP_view (f := eInti64) ([] : List Int) rfl rfl rfl), trivial⟩ (by repeat' first | exact trivial | refine ⟨?_, ?_⟩) (impl_IsPlan_ok_fr n x58 (w64 ((1 : Int) + x67)) ([] : List Int) hx202) ?_
                  rintro r0 o0 n0 ⟨rfl, rfl, rfl⟩ -
                  refine awl_val hτ rfl rfl rfl ?_
                  refine awl_val hτ rfl rfl rfl ?_
                  refine awl_nil ?_
                  refine aw_weak (weak_ofP [0] (l := [(5, .ptr 0 0), (10, .d (.int .i64 (w64 ((1 : Int) + x67)))), (11, .d (.sl false (x68.1.map eInti64))), (12, .d (.int .i64 x68.2.1)), (87, .d (.bool (!x202)))]) (objs := [.box [.d (.cx .f32 x58.Feeder.Source.A.re x58.Feeder.Source.A.im), .d (.cx .f32 x58.Feeder.Source.B.re x58.Feeder.Source.B.im), .d (.cx .f32 x58.Feeder.Source.C.re x58.Feeder.Source.C.im), .d (.sl false (x58.Feeder.Buses.map eSBus)), .d (.sl false (x58.Ties.map eSTie))]]) rfl (by simp) rfl (by repeat' first | exact trivial | refine ⟨?_, ?_⟩) ⟨rfl, trivial, rfl, trivial, rfl, trivial, rfl, trivial, rfl, trivial, trivial⟩) ?_
                  exact hk196 (!x202) h
theorem laws_FnRestored_ok (n : Nat) (code_ : List Int) (more_ : List Int) {r : Bool} (h : m_laws_FnRestored n code_ more_ = some r) : ACall prog false 5 [.d (.sl false (code_.map eIntu8)), .d (.sl false (more_.map eIntu8))] [] (fun v o new => v = .d (.bool r) ∧ o = [] ∧ new = []) := laws_FnRestored_ok_fr0 false n code_ more_ h
theorem laws_FnRestored_ok_fr (n : Nat) (code_ : List Int) (more_ : List Int) {r : Bool} (h : m_laws_FnRestored n code_ more_ = some r) : ACall prog true 5 [.d (.sl false (code_.map eIntu8)), .d (.sl false (more_.map eIntu8))] [] (fun v o new => v = .d (.bool r) ∧ o = [] ∧ new = []) := laws_FnRestored_ok_fr0 true n code_ more_ h

end Go.Proofs.YtkagbffdmppbhaaDoor.AWN
