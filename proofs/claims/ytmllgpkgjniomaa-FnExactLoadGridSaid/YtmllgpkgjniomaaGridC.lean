/- Models and contracts, printed by program. -/
import Derived.Test.YtmllgpkgjniomaaGridB
set_option linter.unusedVariables false
set_option linter.unusedSimpArgs false
set_option linter.unusedSectionVars false
set_option maxHeartbeats 2000000
namespace Go.Proofs.Ytmllgpkgjniomaa.AWN
open Go Go.Proofs.Try

def m_laws_eqTie (n : Nat) (a_ : STie) (b_ : STie) : Option Bool :=
  if a_.A = b_.A then
    if a_.B = b_.B then
      (fconv .f32 .f64 a_.Own.re).bind fun x18 =>
      (fconv .f32 .f64 a_.Own.im).bind fun x19 =>
      (fconv .f32 .f64 b_.Own.re).bind fun x20 =>
      (fconv .f32 .f64 b_.Own.im).bind fun x21 =>
      (m_laws_sameComplex n (Cx.mk x18 x19) (Cx.mk x20 x21)).bind fun x22 =>
      if x22 = true then
        (fconv .f32 .f64 a_.Shared.re).bind fun x29 =>
        (fconv .f32 .f64 a_.Shared.im).bind fun x30 =>
        (fconv .f32 .f64 b_.Shared.re).bind fun x31 =>
        (fconv .f32 .f64 b_.Shared.im).bind fun x32 =>
        (m_laws_sameComplex n (Cx.mk x29 x30) (Cx.mk x31 x32)).bind fun x33 =>
        if x33 = true then
          if a_.Most = b_.Most then
            some true
          else
            some false
        else
          some false
      else
        some false
    else
      some false
  else
    some false
theorem laws_eqTie_ok_fr0 (fr : Bool) (n : Nat) (a_ : STie) (b_ : STie) {r : Bool} (h : m_laws_eqTie n a_ b_ = some r) : ACall prog fr 87 [.agg [.d (.int .i64 a_.A), .d (.int .i64 a_.B), .d (.cx .f32 a_.Own.re a_.Own.im), .d (.cx .f32 a_.Shared.re a_.Shared.im), .d (.int .i64 a_.Most)], .agg [.d (.int .i64 b_.A), .d (.int .i64 b_.B), .d (.cx .f32 b_.Own.re b_.Own.im), .d (.cx .f32 b_.Shared.re b_.Shared.im), .d (.int .i64 b_.Most)]] [] (fun v o new => v = .d (.bool r) ∧ o = [] ∧ new = []) := by
  refine acall_of_aw hτ func87 rfl (by simp) (by simp) ?_
  unfold m_laws_eqTie at h
  refine aw_seq ?_
  refine aw_region ?_
  refine awl_valH hτ rfl rfl rfl ?_
  refine awl_valH hτ rfl rfl rfl ?_
  refine awl_val hτ rfl rfl rfl ?_
  refine awl_nil ?_
  refine aw_seq ?_
  refine aw_seq ?_
  refine aw_region ?_
  refine awl_val hτ rfl rfl rfl ?_
  refine awl_val hτ rfl rfl rfl ?_
  refine awl_val hτ rfl rfl rfl ?_
  refine awl_val hτ rfl rfl rfl ?_
  refine awl_val hτ (v := .d (.bool (!(decide (a_.A = b_.A))))) rfl rfl (or_ine _ _) ?_
  refine awl_nil ?_
  refine aw_weak (weak_ofP [0, 1] (l := [(2, .ptr 0 0), (3, .ptr 1 0), (9, .d (.bool (!(decide (a_.A = b_.A)))))]) (objs := [.box [.d (.int .i64 a_.A), .d (.int .i64 a_.B), .d (.cx .f32 a_.Own.re a_.Own.im), .d (.cx .f32 a_.Shared.re a_.Shared.im), .d (.int .i64 a_.Most)], .box [.d (.int .i64 b_.A), .d (.int .i64 b_.B), .d (.cx .f32 b_.Own.re b_.Own.im), .d (.cx .f32 b_.Shared.re b_.Shared.im), .d (.int .i64 b_.Most)]]) rfl (by simp) rfl (by repeat' first | exact trivial | refine ⟨?_, ?_⟩) ⟨rfl, trivial, rfl, trivial, rfl, trivial, trivial⟩) ?_
  refine aw_cond rfl (fun hc11 => ?_) (fun hc11 => ?_)
  · have hc11 := not_t hc11
    have h := if_f h hc11
    refine aw_seq ?_
    refine aw_region ?_
    refine awl_val hτ rfl rfl rfl ?_
    refine awl_nil ?_
    refine aw_weak (weak_ofP [] (l := [(4, .d (.bool false))]) (objs := []) rfl (by simp) rfl (by repeat' first | exact trivial | refine ⟨?_, ?_⟩) ⟨rfl, trivial, trivial⟩) ?_
    refine aw_ret ?_
    have hr := Option.some.inj h
    subst hr
    exact ret_objs (.inr rfl) [] (objs' := []) (new := []) rfl (by simp) (by simp) rfl (by repeat' first | exact trivial | refine ⟨?_, ?_⟩) rfl rfl (by repeat' first | exact trivial | refine ⟨?_, ?_⟩) (fun _ => ⟨by simp [V.flat, V.flatA, V.flatC, D.flat], flat_nil⟩) ⟨rfl, rfl, rfl⟩
  · have hc11 := not_f hc11
    have h := if_t h hc11
    refine aw_skip ?_
    refine aw_seq ?_
    refine aw_seq ?_
    refine aw_region ?_
    refine awl_val hτ rfl rfl rfl ?_
    refine awl_val hτ rfl rfl rfl ?_
    refine awl_val hτ rfl rfl rfl ?_
    refine awl_val hτ rfl rfl rfl ?_
    refine awl_val hτ (v := .d (.bool (!(decide (a_.B = b_.B))))) rfl rfl (or_ine _ _) ?_
    refine awl_nil ?_
    refine aw_cond rfl (fun hc12 => ?_) (fun hc12 => ?_)
    · have hc12 := not_t hc12
      have h := if_f h hc12
      refine aw_seq ?_
      refine aw_region ?_
      refine awl_val hτ rfl rfl rfl ?_
      refine awl_nil ?_
      refine aw_weak (weak_ofP [] (l := [(4, .d (.bool false))]) (objs := []) rfl (by simp) rfl (by repeat' first | exact trivial | refine ⟨?_, ?_⟩) ⟨rfl, trivial, trivial⟩) ?_
      refine aw_ret ?_
      have hr := Option.some.inj h
      subst hr
      exact ret_objs (.inr rfl) [] (objs' := []) (new := []) rfl (by simp) (by simp) rfl (by repeat' first | exact trivial | refine ⟨?_, ?_⟩) rfl rfl (by repeat' first | exact trivial | refine ⟨?_, ?_⟩) (fun _ => ⟨by simp [V.flat, V.flatA, V.flatC, D.flat], flat_nil⟩) ⟨rfl, rfl, rfl⟩
    · have hc12 := not_f hc12
      have h := if_t h hc12
      refine aw_skip ?_
      refine aw_seq ?_
      refine aw_seq ?_
      refine aw_region ?_
      refine awl_val hτ rfl rfl rfl ?_
      refine awl_val hτ rfl rfl rfl ?_
      refine bnd_elim h fun x18 hx18 h => ?_
      refine bnd_elim h fun x19 hx19 h => ?_
      refine awl_x rfl rfl (x_c2c hτ rfl rfl rfl rfl rfl rfl hx18 hx19) ?_
      refine awl_val hτ rfl rfl rfl ?_
      refine awl_val hτ rfl rfl rfl ?_
      refine bnd_elim h fun x20 hx20 h => ?_
      refine bnd_elim h fun x21 hx21 h => ?_
      refine awl_x rfl rfl (x_c2c hτ rfl rfl rfl rfl rfl rfl hx20 hx21) ?_
      refine bnd_elim h fun x22 hx22 h => ?_
      refine awl_callP hτ false [] rfl rfl rfl (enterOk func131 rfl rfl) rfl rfl (by simp) ⟨trivial, trivial, trivial⟩ (by repeat' first | exact trivial | refine ⟨?_, ?_⟩) (laws_sameComplex_ok n (Cx.mk x18 x19) (Cx.mk x20 x21) hx22) ?_
      rintro r0 o0 n0 ⟨rfl, rfl, rfl⟩ -
      refine awl_weak (weak_ofP [0, 1] (l := [(2, .ptr 0 0), (3, .ptr 1 0), (21, .d (.bool x22))]) (objs := [.box [.d (.int .i64 a_.A), .d (.int .i64 a_.B), .d (.cx .f32 a_.Own.re a_.Own.im), .d (.cx .f32 a_.Shared.re a_.Shared.im), .d (.int .i64 a_.Most)], .box [.d (.int .i64 b_.A), .d (.int .i64 b_.B), .d (.cx .f32 b_.Own.re b_.Own.im), .d (.cx .f32 b_.Shared.re b_.Shared.im), .d (.int .i64 b_.Most)]]) rfl (by simp) rfl (by repeat' first | exact trivial | refine ⟨?_, ?_⟩) ⟨rfl, trivial, rfl, trivial, rfl, trivial, trivial⟩) ?_
      refine awl_val hτ rfl rfl rfl ?_
      refine awl_nil ?_
      refine aw_cond rfl (fun hc23 => ?_) (fun hc23 => ?_)
      · have hc23 := not_t hc23
        have h := if_bf h hc23
        refine aw_seq ?_
        refine aw_region ?_
        refine awl_val hτ rfl rfl rfl ?_
        refine awl_nil ?_
        refine aw_weak (weak_ofP [] (l := [(4, .d (.bool false))]) (objs := []) rfl (by simp) rfl (by repeat' first | exact trivial | refine ⟨?_, ?_⟩) ⟨rfl, trivial, trivial⟩) ?_
        refine aw_ret ?_
        have hr := Option.some.inj h
        subst hr
        exact ret_objs (.inr rfl) [] (objs' := []) (new := []) rfl (by simp) (by simp) rfl (by repeat' first | exact trivial | refine ⟨?_, ?_⟩) rfl rfl (by repeat' first | exact trivial | refine ⟨?_, ?_⟩) (fun _ => ⟨by simp [V.flat, V.flatA, V.flatC, D.flat], flat_nil⟩) ⟨rfl, rfl, rfl⟩
      · have hc23 := not_f hc23
        have h := if_bt h hc23
        refine aw_skip ?_
        refine aw_seq ?_
        refine aw_seq ?_
        refine aw_region ?_
        refine awl_val hτ rfl rfl rfl ?_
        refine awl_val hτ rfl rfl rfl ?_
        refine bnd_elim h fun x29 hx29 h => ?_
        refine bnd_elim h fun x30 hx30 h => ?_
        refine awl_x rfl rfl (x_c2c hτ rfl rfl rfl rfl rfl rfl hx29 hx30) ?_
        refine awl_val hτ rfl rfl rfl ?_
        refine awl_val hτ rfl rfl rfl ?_
        refine bnd_elim h fun x31 hx31 h => ?_
        refine bnd_elim h fun x32 hx32 h => ?_
        refine awl_x rfl rfl (x_c2c hτ rfl rfl rfl rfl rfl rfl hx31 hx32) ?_
        refine bnd_elim h fun x33 hx33 h => ?_
        refine awl_callP hτ false [] rfl rfl rfl (enterOk func131 rfl rfl) rfl rfl (by simp) ⟨trivial, trivial, trivial⟩ (by repeat' first | exact trivial | refine ⟨?_, ?_⟩) (laws_sameComplex_ok n (Cx.mk x29 x30) (Cx.mk x31 x32) hx33) ?_
        rintro r0 o0 n0 ⟨rfl, rfl, rfl⟩ -
        refine awl_val hτ rfl rfl rfl ?_
        refine awl_nil ?_
        refine aw_weak (weak_ofP [0, 1] (l := [(2, .ptr 0 0), (3, .ptr 1 0), (30, .d (.bool (!x33)))]) (objs := [.box [.d (.int .i64 a_.A), .d (.int .i64 a_.B), .d (.cx .f32 a_.Own.re a_.Own.im), .d (.cx .f32 a_.Shared.re a_.Shared.im), .d (.int .i64 a_.Most)], .box [.d (.int .i64 b_.A), .d (.int .i64 b_.B), .d (.cx .f32 b_.Own.re b_.Own.im), .d (.cx .f32 b_.Shared.re b_.Shared.im), .d (.int .i64 b_.Most)]]) rfl (by simp) rfl (by repeat' first | exact trivial | refine ⟨?_, ?_⟩) ⟨rfl, trivial, rfl, trivial, rfl, trivial, trivial⟩) ?_
        refine aw_cond rfl (fun hc34 => ?_) (fun hc34 => ?_)
        · have hc34 := not_t hc34
          have h := if_bf h hc34
          refine aw_seq ?_
          refine aw_region ?_
          refine awl_val hτ rfl rfl rfl ?_
          refine awl_nil ?_
          refine aw_weak (weak_ofP [] (l := [(4, .d (.bool false))]) (objs := []) rfl (by simp) rfl (by repeat' first | exact trivial | refine ⟨?_, ?_⟩) ⟨rfl, trivial, trivial⟩) ?_
          refine aw_ret ?_
          have hr := Option.some.inj h
          subst hr
          exact ret_objs (.inr rfl) [] (objs' := []) (new := []) rfl (by simp) (by simp) rfl (by repeat' first | exact trivial | refine ⟨?_, ?_⟩) rfl rfl (by repeat' first | exact trivial | refine ⟨?_, ?_⟩) (fun _ => ⟨by simp [V.flat, V.flatA, V.flatC, D.flat], flat_nil⟩) ⟨rfl, rfl, rfl⟩
        · have hc34 := not_f hc34
          have h := if_bt h hc34
          refine aw_skip ?_
          refine aw_seq ?_
          refine aw_seq ?_
          refine aw_region ?_
          refine awl_val hτ rfl rfl rfl ?_
          refine awl_val hτ rfl rfl rfl ?_
          refine awl_val hτ rfl rfl rfl ?_
          refine awl_val hτ rfl rfl rfl ?_
          refine awl_val hτ (v := .d (.bool (!(decide (a_.Most = b_.Most))))) rfl rfl (or_ine _ _) ?_
          refine awl_nil ?_
          refine aw_cond rfl (fun hc35 => ?_) (fun hc35 => ?_)
          · have hc35 := not_t hc35
            have h := if_f h hc35
            refine aw_seq ?_
            refine aw_region ?_
            refine awl_val hτ rfl rfl rfl ?_
            refine awl_nil ?_
            refine aw_weak (weak_ofP [] (l := [(4, .d (.bool false))]) (objs := []) rfl (by simp) rfl (by repeat' first | exact trivial | refine ⟨?_, ?_⟩) ⟨rfl, trivial, trivial⟩) ?_
            refine aw_ret ?_
            have hr := Option.some.inj h
            subst hr
            exact ret_objs (.inr rfl) [] (objs' := []) (new := []) rfl (by simp) (by simp) rfl (by repeat' first | exact trivial | refine ⟨?_, ?_⟩) rfl rfl (by repeat' first | exact trivial | refine ⟨?_, ?_⟩) (fun _ => ⟨by simp [V.flat, V.flatA, V.flatC, D.flat], flat_nil⟩) ⟨rfl, rfl, rfl⟩
          · have hc35 := not_f hc35
            have h := if_t h hc35
            refine aw_skip ?_
            refine aw_seq ?_
            refine aw_region ?_
            refine awl_val hτ rfl rfl rfl ?_
            refine awl_nil ?_
            refine aw_weak (weak_ofP [] (l := [(4, .d (.bool true))]) (objs := []) rfl (by simp) rfl (by repeat' first | exact trivial | refine ⟨?_, ?_⟩) ⟨rfl, trivial, trivial⟩) ?_
            refine aw_ret ?_
            have hr := Option.some.inj h
            subst hr
            exact ret_objs (.inr rfl) [] (objs' := []) (new := []) rfl (by simp) (by simp) rfl (by repeat' first | exact trivial | refine ⟨?_, ?_⟩) rfl rfl (by repeat' first | exact trivial | refine ⟨?_, ?_⟩) (fun _ => ⟨by simp [V.flat, V.flatA, V.flatC, D.flat], flat_nil⟩) ⟨rfl, rfl, rfl⟩
theorem laws_eqTie_ok (n : Nat) (a_ : STie) (b_ : STie) {r : Bool} (h : m_laws_eqTie n a_ b_ = some r) : ACall prog false 87 [.agg [.d (.int .i64 a_.A), .d (.int .i64 a_.B), .d (.cx .f32 a_.Own.re a_.Own.im), .d (.cx .f32 a_.Shared.re a_.Shared.im), .d (.int .i64 a_.Most)], .agg [.d (.int .i64 b_.A), .d (.int .i64 b_.B), .d (.cx .f32 b_.Own.re b_.Own.im), .d (.cx .f32 b_.Shared.re b_.Shared.im), .d (.int .i64 b_.Most)]] [] (fun v o new => v = .d (.bool r) ∧ o = [] ∧ new = []) := laws_eqTie_ok_fr0 false n a_ b_ h
theorem laws_eqTie_ok_fr (n : Nat) (a_ : STie) (b_ : STie) {r : Bool} (h : m_laws_eqTie n a_ b_ = some r) : ACall prog true 87 [.agg [.d (.int .i64 a_.A), .d (.int .i64 a_.B), .d (.cx .f32 a_.Own.re a_.Own.im), .d (.cx .f32 a_.Shared.re a_.Shared.im), .d (.int .i64 a_.Most)], .agg [.d (.int .i64 b_.A), .d (.int .i64 b_.B), .d (.cx .f32 b_.Own.re b_.Own.im), .d (.cx .f32 b_.Shared.re b_.Shared.im), .d (.int .i64 b_.Most)]] [] (fun v o new => v = .d (.bool r) ∧ o = [] ∧ new = []) := laws_eqTie_ok_fr0 true n a_ b_ h

def m_laws_eqTieS_l1 (n : Nat) (a_ : List STie) (b_ : List STie) : Nat → Int → Option Bool
  | 0, _ => none
  | m18 + 1, v13 =>
    if v13 < (a_.length : Int) then
      (getI a_ v13).bind fun x24 =>
      (getI b_ v13).bind fun x25 =>
      (m_laws_eqTie n x24 x25).bind fun x26 =>
      if x26 = true then
        (m_laws_eqTieS_l1 n a_ b_ m18) (w64 (v13 + (1 : Int)))
      else
        some false
    else
      some true
def m_laws_eqTieS (n : Nat) (a_ : List STie) (b_ : List STie) : Option Bool :=
  if (a_.length : Int) = (b_.length : Int) then
    m_laws_eqTieS_l1 n a_ b_ n (0 : Int)
  else
    some false
theorem laws_eqTieS_ok_fr0 (fr : Bool) (n : Nat) (a_ : List STie) (b_ : List STie) {r : Bool} (h : m_laws_eqTieS n a_ b_ = some r) : ACall prog fr 36 [.d (.sl false (a_.map eSTie)), .d (.sl false (b_.map eSTie))] [] (fun v o new => v = .d (.bool r) ∧ o = [] ∧ new = []) := by
  refine acall_of_aw hτ func36 rfl (by simp) (by simp) ?_
  unfold m_laws_eqTieS at h
  refine aw_seq ?_
  refine aw_region ?_
  refine awl_val hτ rfl rfl rfl ?_
  refine awl_nil ?_
  refine aw_seq ?_
  refine aw_seq ?_
  refine aw_region ?_
  refine awl_val hτ rfl rfl rfl ?_
  refine awl_val hτ (v := .d (.int .i64 (a_.length : Int))) rfl rfl (Eq.trans rfl (or_len (f := eSTie) a_)) ?_
  refine awl_val hτ rfl rfl rfl ?_
  refine awl_val hτ (v := .d (.int .i64 (b_.length : Int))) rfl rfl (Eq.trans rfl (or_len (f := eSTie) b_)) ?_
  refine awl_val hτ (v := .d (.bool (!(decide ((a_.length : Int) = (b_.length : Int)))))) rfl rfl (or_ine _ _) ?_
  refine awl_nil ?_
  refine aw_weak (weak_ofP [] (l := [(0, .d (.sl false (a_.map eSTie))), (1, .d (.sl false (b_.map eSTie))), (10, .d (.bool (!(decide ((a_.length : Int) = (b_.length : Int))))))]) (objs := []) rfl (by simp) rfl (by repeat' first | exact trivial | refine ⟨?_, ?_⟩) ⟨rfl, trivial, rfl, trivial, rfl, trivial, trivial⟩) ?_
  refine aw_cond rfl (fun hc9 => ?_) (fun hc9 => ?_)
  · have hc9 := not_t hc9
    have h := if_f h hc9
    refine aw_seq ?_
    refine aw_region ?_
    refine awl_val hτ rfl rfl rfl ?_
    refine awl_nil ?_
    refine aw_weak (weak_ofP [] (l := [(4, .d (.bool false))]) (objs := []) rfl (by simp) rfl (by repeat' first | exact trivial | refine ⟨?_, ?_⟩) ⟨rfl, trivial, trivial⟩) ?_
    refine aw_ret ?_
    have hr := Option.some.inj h
    subst hr
    exact ret_objs (.inr rfl) [] (objs' := []) (new := []) rfl (by simp) (by simp) rfl (by repeat' first | exact trivial | refine ⟨?_, ?_⟩) rfl rfl (by repeat' first | exact trivial | refine ⟨?_, ?_⟩) (fun _ => ⟨by simp [V.flat, V.flatA, V.flatC, D.flat], flat_nil⟩) ⟨rfl, rfl, rfl⟩
  · have hc9 := not_f hc9
    have h := if_t h hc9
    refine aw_skip ?_
    refine aw_seq ?_
    refine aw_seq ?_
    refine aw_region ?_
    refine awl_val hτ rfl rfl rfl ?_
    refine awl_nil ?_
    refine aw_block ?_
    refine aw_loop (ι := Nat × Int) (fun (m18, v13) => St.of [(0, .d (.sl false (a_.map eSTie))), (1, .d (.sl false (b_.map eSTie))), (5, .d (.int .i64 v13))] [] f36.ntmps 0) (fun (m18, v13) => m_laws_eqTieS_l1 n a_ b_ m18 v13 = some r) (fun x => x.1) (n, (0 : Int)) h (weak_ofP [] (l := [(0, .d (.sl false (a_.map eSTie))), (1, .d (.sl false (b_.map eSTie))), (5, .d (.int .i64 (0 : Int)))]) (objs := []) rfl (by simp) rfl (by repeat' first | exact trivial | refine ⟨?_, ?_⟩) ⟨rfl, trivial, rfl, trivial, rfl, trivial, trivial⟩) ?_
    rintro ⟨m18, v13⟩ h
    replace h : m_laws_eqTieS_l1 n a_ b_ m18 v13 = some r := h
    rcases m18 with _ | m18
    · rw [m_laws_eqTieS_l1] at h; cases h
    rw [m_laws_eqTieS_l1] at h
    refine aw_seq ?_
    refine aw_seq ?_
    refine aw_region ?_
    refine awl_val hτ rfl rfl rfl ?_
    refine awl_val hτ rfl rfl rfl ?_
    refine awl_val hτ (v := .d (.int .i64 (a_.length : Int))) rfl rfl (Eq.trans rfl (or_len (f := eSTie) a_)) ?_
    refine awl_val hτ rfl rfl rfl ?_
    refine awl_nil ?_
    refine aw_cond rfl (fun hc20 => ?_) (fun hc20 => ?_)
    · have h := if_t h hc20
      refine aw_skip ?_
      refine aw_seq ?_
      refine aw_block ?_
      refine aw_seq ?_
      refine any_start ?_
      refine any_val hτ [] 0 rfl rfl rfl rfl rfl ?_
      refine any_val hτ [] 1 rfl rfl rfl rfl rfl ?_
      refine bnd_elim h fun x24 hx24 h => ?_
      refine any_elem hτ [] 2 rfl rfl rfl rfl rfl (getI_some hx24).1 (map_getI hx24) rfl ?_
      refine any_val hτ [] 3 rfl rfl rfl rfl rfl ?_
      refine any_val hτ [] 4 rfl rfl rfl rfl rfl ?_
      refine any_val hτ [] 5 rfl rfl rfl rfl rfl ?_
      refine bnd_elim h fun x25 hx25 h => ?_
      refine any_elem hτ [] 6 rfl rfl rfl rfl rfl (getI_some hx25).1 (map_getI hx25) rfl ?_
      refine any_val hτ [] 7 rfl rfl rfl rfl rfl ?_
      refine bnd_elim h fun x26 hx26 h => ?_
      refine any_callP hτ false [] [] 8 rfl rfl rfl rfl (enterOk func87 rfl rfl) rfl rfl (by simp) ⟨(by repeat' first | exact trivial | refine ⟨?_, ?_⟩), (by repeat' first | exact trivial | refine ⟨?_, ?_⟩), trivial⟩ (by repeat' first | exact trivial | refine ⟨?_, ?_⟩) (laws_eqTie_ok n x24 x25 hx26) trivial ?_
      refine any_val hτ [] 9 rfl rfl rfl rfl rfl ?_
      refine any_done mixed (by kernel_rfl) ?_
      refine aw_weak (weak_ofP [] (l := [(0, .d (.sl false (a_.map eSTie))), (1, .d (.sl false (b_.map eSTie))), (5, .d (.int .i64 v13)), (26, .d (.bool (!x26)))]) (objs := []) rfl (by simp) rfl (by repeat' first | exact trivial | refine ⟨?_, ?_⟩) ⟨rfl, trivial, rfl, trivial, rfl, trivial, rfl, trivial, trivial⟩) ?_
      refine aw_cond rfl (fun hc27 => ?_) (fun hc27 => ?_)
      · have hc27 := not_t hc27
        have h := if_bf h hc27
        refine aw_seq ?_
        refine aw_region ?_
        refine awl_val hτ rfl rfl rfl ?_
        refine awl_nil ?_
        refine aw_weak (weak_ofP [] (l := [(4, .d (.bool false))]) (objs := []) rfl (by simp) rfl (by repeat' first | exact trivial | refine ⟨?_, ?_⟩) ⟨rfl, trivial, trivial⟩) ?_
        refine aw_ret ?_
        have hr := Option.some.inj h
        subst hr
        exact ret_objs (.inr rfl) [] (objs' := []) (new := []) rfl (by simp) (by simp) rfl (by repeat' first | exact trivial | refine ⟨?_, ?_⟩) rfl rfl (by repeat' first | exact trivial | refine ⟨?_, ?_⟩) (fun _ => ⟨by simp [V.flat, V.flatA, V.flatC, D.flat], flat_nil⟩) ⟨rfl, rfl, rfl⟩
      · have hc27 := not_f hc27
        have h := if_bt h hc27
        refine aw_skip ?_
        refine aw_region ?_
        refine awl_val hτ rfl rfl rfl ?_
        refine awl_val hτ rfl rfl rfl ?_
        refine awl_val hτ rfl rfl rfl ?_
        refine awl_nil ?_
        exact ⟨(m18, (w64 (v13 + (1 : Int)))), h, Nat.lt_succ_self m18, (weak_ofP [] (l := [(0, .d (.sl false (a_.map eSTie))), (1, .d (.sl false (b_.map eSTie))), (5, .d (.int .i64 (w64 (v13 + (1 : Int)))))]) (objs := []) rfl (by simp) rfl (by repeat' first | exact trivial | refine ⟨?_, ?_⟩) ⟨rfl, trivial, rfl, trivial, rfl, trivial, trivial⟩)⟩
    · have h := if_f h hc20
      refine aw_exit ?_
      refine aw_seq ?_
      refine aw_region ?_
      refine awl_val hτ rfl rfl rfl ?_
      refine awl_nil ?_
      refine aw_weak (weak_ofP [] (l := [(4, .d (.bool true))]) (objs := []) rfl (by simp) rfl (by repeat' first | exact trivial | refine ⟨?_, ?_⟩) ⟨rfl, trivial, trivial⟩) ?_
      refine aw_ret ?_
      have hr := Option.some.inj h
      subst hr
      exact ret_objs (.inr rfl) [] (objs' := []) (new := []) rfl (by simp) (by simp) rfl (by repeat' first | exact trivial | refine ⟨?_, ?_⟩) rfl rfl (by repeat' first | exact trivial | refine ⟨?_, ?_⟩) (fun _ => ⟨by simp [V.flat, V.flatA, V.flatC, D.flat], flat_nil⟩) ⟨rfl, rfl, rfl⟩
theorem laws_eqTieS_ok (n : Nat) (a_ : List STie) (b_ : List STie) {r : Bool} (h : m_laws_eqTieS n a_ b_ = some r) : ACall prog false 36 [.d (.sl false (a_.map eSTie)), .d (.sl false (b_.map eSTie))] [] (fun v o new => v = .d (.bool r) ∧ o = [] ∧ new = []) := laws_eqTieS_ok_fr0 false n a_ b_ h
theorem laws_eqTieS_ok_fr (n : Nat) (a_ : List STie) (b_ : List STie) {r : Bool} (h : m_laws_eqTieS n a_ b_ = some r) : ACall prog true 36 [.d (.sl false (a_.map eSTie)), .d (.sl false (b_.map eSTie))] [] (fun v o new => v = .d (.bool r) ∧ o = [] ∧ new = []) := laws_eqTieS_ok_fr0 true n a_ b_ h

def m_laws_eqGrid (n : Nat) (a_ : SGrid) (b_ : SGrid) : Option Bool :=
  (m_laws_eqFeeder n a_.Feeder b_.Feeder).bind fun x4 =>
  if x4 = true then
    (m_laws_eqTieS n a_.Ties b_.Ties).bind fun x6 =>
    if x6 = true then
      some true
    else
      some false
  else
    some false
theorem laws_eqGrid_ok_fr0 (fr : Bool) (n : Nat) (a_ : SGrid) (b_ : SGrid) {r : Bool} (h : m_laws_eqGrid n a_ b_ = some r) : ACall prog fr 9 [.agg [.d (.cx .f32 a_.Feeder.Source.A.re a_.Feeder.Source.A.im), .d (.cx .f32 a_.Feeder.Source.B.re a_.Feeder.Source.B.im), .d (.cx .f32 a_.Feeder.Source.C.re a_.Feeder.Source.C.im), .d (.sl false (a_.Feeder.Buses.map eSBus)), .d (.sl false (a_.Ties.map eSTie))], .agg [.d (.cx .f32 b_.Feeder.Source.A.re b_.Feeder.Source.A.im), .d (.cx .f32 b_.Feeder.Source.B.re b_.Feeder.Source.B.im), .d (.cx .f32 b_.Feeder.Source.C.re b_.Feeder.Source.C.im), .d (.sl false (b_.Feeder.Buses.map eSBus)), .d (.sl false (b_.Ties.map eSTie))]] [] (fun v o new => v = .d (.bool r) ∧ o = [] ∧ new = []) := by
  refine acall_of_aw hτ func9 rfl (by simp) (by simp) ?_
  unfold m_laws_eqGrid at h
  refine aw_seq ?_
  refine aw_region ?_
  refine awl_valH hτ rfl rfl rfl ?_
  refine awl_valH hτ rfl rfl rfl ?_
  refine awl_val hτ rfl rfl rfl ?_
  refine awl_nil ?_
  refine aw_seq ?_
  refine aw_seq ?_
  refine aw_region ?_
  refine awl_val hτ rfl rfl rfl ?_
  refine awl_val hτ rfl rfl rfl ?_
  refine awl_val hτ rfl rfl rfl ?_
  refine awl_val hτ rfl rfl rfl ?_
  refine bnd_elim h fun x4 hx4 h => ?_
  refine awl_callP hτ false [] rfl rfl rfl (enterOk func35 rfl rfl) rfl rfl (by simp) ⟨(by repeat' first | exact trivial | refine ⟨?_, ?_⟩), (by repeat' first | exact trivial | refine ⟨?_, ?_⟩), trivial⟩ (by repeat' first | exact trivial | refine ⟨?_, ?_⟩) (laws_eqFeeder_ok n a_.Feeder b_.Feeder hx4) ?_
  rintro r0 o0 n0 ⟨rfl, rfl, rfl⟩ -
  refine awl_val hτ rfl rfl rfl ?_
  refine awl_nil ?_
  refine aw_weak (weak_ofP [0, 1] (l := [(2, .ptr 0 0), (3, .ptr 1 0), (10, .d (.bool (!x4)))]) (objs := [.box [.d (.cx .f32 a_.Feeder.Source.A.re a_.Feeder.Source.A.im), .d (.cx .f32 a_.Feeder.Source.B.re a_.Feeder.Source.B.im), .d (.cx .f32 a_.Feeder.Source.C.re a_.Feeder.Source.C.im), .d (.sl false (a_.Feeder.Buses.map eSBus)), .d (.sl false (a_.Ties.map eSTie))], .box [.d (.cx .f32 b_.Feeder.Source.A.re b_.Feeder.Source.A.im), .d (.cx .f32 b_.Feeder.Source.B.re b_.Feeder.Source.B.im), .d (.cx .f32 b_.Feeder.Source.C.re b_.Feeder.Source.C.im), .d (.sl false (b_.Feeder.Buses.map eSBus)), .d (.sl false (b_.Ties.map eSTie))]]) rfl (by simp) rfl (by repeat' first | exact trivial | refine ⟨?_, ?_⟩) ⟨rfl, trivial, rfl, trivial, rfl, trivial, trivial⟩) ?_
  refine aw_cond rfl (fun hc5 => ?_) (fun hc5 => ?_)
  · have hc5 := not_t hc5
    have h := if_bf h hc5
    refine aw_seq ?_
    refine aw_region ?_
    refine awl_val hτ rfl rfl rfl ?_
    refine awl_nil ?_
    refine aw_weak (weak_ofP [] (l := [(4, .d (.bool false))]) (objs := []) rfl (by simp) rfl (by repeat' first | exact trivial | refine ⟨?_, ?_⟩) ⟨rfl, trivial, trivial⟩) ?_
    refine aw_ret ?_
    have hr := Option.some.inj h
    subst hr
    exact ret_objs (.inr rfl) [] (objs' := []) (new := []) rfl (by simp) (by simp) rfl (by repeat' first | exact trivial | refine ⟨?_, ?_⟩) rfl rfl (by repeat' first | exact trivial | refine ⟨?_, ?_⟩) (fun _ => ⟨by simp [V.flat, V.flatA, V.flatC, D.flat], flat_nil⟩) ⟨rfl, rfl, rfl⟩
  · have hc5 := not_f hc5
    have h := if_bt h hc5
    refine aw_skip ?_
    refine aw_seq ?_
    refine aw_seq ?_
    refine aw_region ?_
    refine awl_val hτ rfl rfl rfl ?_
    refine awl_val hτ rfl rfl rfl ?_
    refine awl_val hτ rfl rfl rfl ?_
    refine awl_val hτ rfl rfl rfl ?_
    refine bnd_elim h fun x6 hx6 h => ?_
    refine awl_callP hτ false [] rfl rfl rfl (enterOk func36 rfl rfl) rfl rfl (by simp) ⟨trivial, trivial, trivial⟩ (by repeat' first | exact trivial | refine ⟨?_, ?_⟩) (laws_eqTieS_ok n a_.Ties b_.Ties hx6) ?_
    rintro r0 o0 n0 ⟨rfl, rfl, rfl⟩ -
    refine awl_val hτ rfl rfl rfl ?_
    refine awl_nil ?_
    refine aw_weak (weak_ofP [] (l := [(16, .d (.bool (!x6)))]) (objs := []) rfl (by simp) rfl (by repeat' first | exact trivial | refine ⟨?_, ?_⟩) ⟨rfl, trivial, trivial⟩) ?_
    refine aw_cond rfl (fun hc7 => ?_) (fun hc7 => ?_)
    · have hc7 := not_t hc7
      have h := if_bf h hc7
      refine aw_seq ?_
      refine aw_region ?_
      refine awl_val hτ rfl rfl rfl ?_
      refine awl_nil ?_
      refine aw_weak (weak_ofP [] (l := [(4, .d (.bool false))]) (objs := []) rfl (by simp) rfl (by repeat' first | exact trivial | refine ⟨?_, ?_⟩) ⟨rfl, trivial, trivial⟩) ?_
      refine aw_ret ?_
      have hr := Option.some.inj h
      subst hr
      exact ret_objs (.inr rfl) [] (objs' := []) (new := []) rfl (by simp) (by simp) rfl (by repeat' first | exact trivial | refine ⟨?_, ?_⟩) rfl rfl (by repeat' first | exact trivial | refine ⟨?_, ?_⟩) (fun _ => ⟨by simp [V.flat, V.flatA, V.flatC, D.flat], flat_nil⟩) ⟨rfl, rfl, rfl⟩
    · have hc7 := not_f hc7
      have h := if_bt h hc7
      refine aw_skip ?_
      refine aw_seq ?_
      refine aw_region ?_
      refine awl_val hτ rfl rfl rfl ?_
      refine awl_nil ?_
      refine aw_weak (weak_ofP [] (l := [(4, .d (.bool true))]) (objs := []) rfl (by simp) rfl (by repeat' first | exact trivial | refine ⟨?_, ?_⟩) ⟨rfl, trivial, trivial⟩) ?_
      refine aw_ret ?_
      have hr := Option.some.inj h
      subst hr
      exact ret_objs (.inr rfl) [] (objs' := []) (new := []) rfl (by simp) (by simp) rfl (by repeat' first | exact trivial | refine ⟨?_, ?_⟩) rfl rfl (by repeat' first | exact trivial | refine ⟨?_, ?_⟩) (fun _ => ⟨by simp [V.flat, V.flatA, V.flatC, D.flat], flat_nil⟩) ⟨rfl, rfl, rfl⟩
theorem laws_eqGrid_ok (n : Nat) (a_ : SGrid) (b_ : SGrid) {r : Bool} (h : m_laws_eqGrid n a_ b_ = some r) : ACall prog false 9 [.agg [.d (.cx .f32 a_.Feeder.Source.A.re a_.Feeder.Source.A.im), .d (.cx .f32 a_.Feeder.Source.B.re a_.Feeder.Source.B.im), .d (.cx .f32 a_.Feeder.Source.C.re a_.Feeder.Source.C.im), .d (.sl false (a_.Feeder.Buses.map eSBus)), .d (.sl false (a_.Ties.map eSTie))], .agg [.d (.cx .f32 b_.Feeder.Source.A.re b_.Feeder.Source.A.im), .d (.cx .f32 b_.Feeder.Source.B.re b_.Feeder.Source.B.im), .d (.cx .f32 b_.Feeder.Source.C.re b_.Feeder.Source.C.im), .d (.sl false (b_.Feeder.Buses.map eSBus)), .d (.sl false (b_.Ties.map eSTie))]] [] (fun v o new => v = .d (.bool r) ∧ o = [] ∧ new = []) := laws_eqGrid_ok_fr0 false n a_ b_ h
theorem laws_eqGrid_ok_fr (n : Nat) (a_ : SGrid) (b_ : SGrid) {r : Bool} (h : m_laws_eqGrid n a_ b_ = some r) : ACall prog true 9 [.agg [.d (.cx .f32 a_.Feeder.Source.A.re a_.Feeder.Source.A.im), .d (.cx .f32 a_.Feeder.Source.B.re a_.Feeder.Source.B.im), .d (.cx .f32 a_.Feeder.Source.C.re a_.Feeder.Source.C.im), .d (.sl false (a_.Feeder.Buses.map eSBus)), .d (.sl false (a_.Ties.map eSTie))], .agg [.d (.cx .f32 b_.Feeder.Source.A.re b_.Feeder.Source.A.im), .d (.cx .f32 b_.Feeder.Source.B.re b_.Feeder.Source.B.im), .d (.cx .f32 b_.Feeder.Source.C.re b_.Feeder.Source.C.im), .d (.sl false (b_.Feeder.Buses.map eSBus)), .d (.sl false (b_.Ties.map eSTie))]] [] (fun v o new => v = .d (.bool r) ∧ o = [] ∧ new = []) := laws_eqGrid_ok_fr0 true n a_ b_ h

def m_laws_markBusS_l1 (n : Nat) : Nat → List SBus → Int → Int → Option (Int × List SBus)
  | 0, _, _, _ => none
  | m85 + 1, v61, v62, v63 =>
    if v63 < (v61.length : Int) then
      (getI v61 v63).bind fun x88 =>
      (fconv .f64 .f32 (FloatKind.nearest .f64 (w64 (v62 + (1 : Int))))).bind fun x89 =>
      (fconv .f64 .f32 (4607182418800017408 : Nat)).bind fun x90 =>
      (getI (v61.set v63.toNat (SBus.mk v62 x88.Own x88.Shared x88.Kind x88.Load x88.Customers)) v63).bind fun x91 =>
      (fconv .f64 .f32 (FloatKind.nearest .f64 (w64 ((w64 (v62 + (1 : Int))) + (1 : Int))))).bind fun x92 =>
      (fconv .f64 .f32 (4607182418800017408 : Nat)).bind fun x93 =>
      (getI ((v61.set v63.toNat (SBus.mk v62 x88.Own x88.Shared x88.Kind x88.Load x88.Customers)).set v63.toNat (SBus.mk x91.Parent (Cx.mk x89 x90) x91.Shared x91.Kind x91.Load x91.Customers)) v63).bind fun x94 =>
      (getI (((v61.set v63.toNat (SBus.mk v62 x88.Own x88.Shared x88.Kind x88.Load x88.Customers)).set v63.toNat (SBus.mk x91.Parent (Cx.mk x89 x90) x91.Shared x91.Kind x91.Load x91.Customers)).set v63.toNat (SBus.mk x94.Parent x94.Own (Cx.mk x92 x93) x94.Kind x94.Load x94.Customers)) v63).bind fun x95 =>
      (fconv .f64 .f32 (FloatKind.nearest .f64 (w64 ((w64 ((w64 ((w64 (v62 + (1 : Int))) + (1 : Int))) + (1 : Int))) + (1 : Int))))).bind fun x96 =>
      (fconv .f64 .f32 (4607182418800017408 : Nat)).bind fun x97 =>
      (getI ((((v61.set v63.toNat (SBus.mk v62 x88.Own x88.Shared x88.Kind x88.Load x88.Customers)).set v63.toNat (SBus.mk x91.Parent (Cx.mk x89 x90) x91.Shared x91.Kind x91.Load x91.Customers)).set v63.toNat (SBus.mk x94.Parent x94.Own (Cx.mk x92 x93) x94.Kind x94.Load x94.Customers)).set v63.toNat (SBus.mk x95.Parent x95.Own x95.Shared (w64 ((w64 ((w64 (v62 + (1 : Int))) + (1 : Int))) + (1 : Int))) x95.Load x95.Customers)) v63).bind fun x98 =>
      (fconv .f64 .f32 (FloatKind.nearest .f64 (w64 ((w64 ((w64 ((w64 ((w64 (v62 + (1 : Int))) + (1 : Int))) + (1 : Int))) + (1 : Int))) + (1 : Int))))).bind fun x99 =>
      (fconv .f64 .f32 (4607182418800017408 : Nat)).bind fun x100 =>
      (getI (((((v61.set v63.toNat (SBus.mk v62 x88.Own x88.Shared x88.Kind x88.Load x88.Customers)).set v63.toNat (SBus.mk x91.Parent (Cx.mk x89 x90) x91.Shared x91.Kind x91.Load x91.Customers)).set v63.toNat (SBus.mk x94.Parent x94.Own (Cx.mk x92 x93) x94.Kind x94.Load x94.Customers)).set v63.toNat (SBus.mk x95.Parent x95.Own x95.Shared (w64 ((w64 ((w64 (v62 + (1 : Int))) + (1 : Int))) + (1 : Int))) x95.Load x95.Customers)).set v63.toNat (SBus.mk x98.Parent x98.Own x98.Shared x98.Kind (SPhases.mk (Cx.mk x96 x97) x98.Load.B x98.Load.C) x98.Customers)) v63).bind fun x101 =>
      (fconv .f64 .f32 (FloatKind.nearest .f64 (w64 ((w64 ((w64 ((w64 ((w64 ((w64 (v62 + (1 : Int))) + (1 : Int))) + (1 : Int))) + (1 : Int))) + (1 : Int))) + (1 : Int))))).bind fun x102 =>
      (fconv .f64 .f32 (4607182418800017408 : Nat)).bind fun x103 =>
      (getI ((((((v61.set v63.toNat (SBus.mk v62 x88.Own x88.Shared x88.Kind x88.Load x88.Customers)).set v63.toNat (SBus.mk x91.Parent (Cx.mk x89 x90) x91.Shared x91.Kind x91.Load x91.Customers)).set v63.toNat (SBus.mk x94.Parent x94.Own (Cx.mk x92 x93) x94.Kind x94.Load x94.Customers)).set v63.toNat (SBus.mk x95.Parent x95.Own x95.Shared (w64 ((w64 ((w64 (v62 + (1 : Int))) + (1 : Int))) + (1 : Int))) x95.Load x95.Customers)).set v63.toNat (SBus.mk x98.Parent x98.Own x98.Shared x98.Kind (SPhases.mk (Cx.mk x96 x97) x98.Load.B x98.Load.C) x98.Customers)).set v63.toNat (SBus.mk x101.Parent x101.Own x101.Shared x101.Kind (SPhases.mk x101.Load.A (Cx.mk x99 x100) x101.Load.C) x101.Customers)) v63).bind fun x104 =>
      (getI (((((((v61.set v63.toNat (SBus.mk v62 x88.Own x88.Shared x88.Kind x88.Load x88.Customers)).set v63.toNat (SBus.mk x91.Parent (Cx.mk x89 x90) x91.Shared x91.Kind x91.Load x91.Customers)).set v63.toNat (SBus.mk x94.Parent x94.Own (Cx.mk x92 x93) x94.Kind x94.Load x94.Customers)).set v63.toNat (SBus.mk x95.Parent x95.Own x95.Shared (w64 ((w64 ((w64 (v62 + (1 : Int))) + (1 : Int))) + (1 : Int))) x95.Load x95.Customers)).set v63.toNat (SBus.mk x98.Parent x98.Own x98.Shared x98.Kind (SPhases.mk (Cx.mk x96 x97) x98.Load.B x98.Load.C) x98.Customers)).set v63.toNat (SBus.mk x101.Parent x101.Own x101.Shared x101.Kind (SPhases.mk x101.Load.A (Cx.mk x99 x100) x101.Load.C) x101.Customers)).set v63.toNat (SBus.mk x104.Parent x104.Own x104.Shared x104.Kind (SPhases.mk x104.Load.A x104.Load.B (Cx.mk x102 x103)) x104.Customers)) v63).bind fun x105 =>
      (m_laws_markBusS_l1 n m85) ((((((((v61.set v63.toNat (SBus.mk v62 x88.Own x88.Shared x88.Kind x88.Load x88.Customers)).set v63.toNat (SBus.mk x91.Parent (Cx.mk x89 x90) x91.Shared x91.Kind x91.Load x91.Customers)).set v63.toNat (SBus.mk x94.Parent x94.Own (Cx.mk x92 x93) x94.Kind x94.Load x94.Customers)).set v63.toNat (SBus.mk x95.Parent x95.Own x95.Shared (w64 ((w64 ((w64 (v62 + (1 : Int))) + (1 : Int))) + (1 : Int))) x95.Load x95.Customers)).set v63.toNat (SBus.mk x98.Parent x98.Own x98.Shared x98.Kind (SPhases.mk (Cx.mk x96 x97) x98.Load.B x98.Load.C) x98.Customers)).set v63.toNat (SBus.mk x101.Parent x101.Own x101.Shared x101.Kind (SPhases.mk x101.Load.A (Cx.mk x99 x100) x101.Load.C) x101.Customers)).set v63.toNat (SBus.mk x104.Parent x104.Own x104.Shared x104.Kind (SPhases.mk x104.Load.A x104.Load.B (Cx.mk x102 x103)) x104.Customers)).set v63.toNat (SBus.mk x105.Parent x105.Own x105.Shared x105.Kind x105.Load (w64 ((w64 ((w64 ((w64 ((w64 ((w64 ((w64 (v62 + (1 : Int))) + (1 : Int))) + (1 : Int))) + (1 : Int))) + (1 : Int))) + (1 : Int))) + (1 : Int))))) (w64 ((w64 ((w64 ((w64 ((w64 ((w64 ((w64 ((w64 (v62 + (1 : Int))) + (1 : Int))) + (1 : Int))) + (1 : Int))) + (1 : Int))) + (1 : Int))) + (1 : Int))) + (1 : Int))) (w64 (v63 + (1 : Int)))
    else
      some (v62, v61)
def m_laws_markBusS (n : Nat) (a_ : List SBus) (k_ : Int) : Option (Int × List SBus) :=
  m_laws_markBusS_l1 n n a_ k_ (0 : Int)
theorem laws_markBusS_ok_fr0 (fr : Bool) (n : Nat) (a_ : List SBus) (k_ : Int) {r : Int × List SBus} (h : m_laws_markBusS n a_ k_ = some r) : ACall prog fr 88 [.row 0 a_.length 0 a_.length, .d (.int .i64 k_)] [.row 8 (a_.map eSBus)] (fun v o new => v = .d (.int .i64 r.1) ∧ o = [.row 8 (r.2.map eSBus)] ∧ new = []) := by
  refine acall_of_aw hτ func88 rfl (by simp) (by simp) ?_
  unfold m_laws_markBusS at h
  refine aw_seq ?_
  refine aw_region ?_
  refine awl_val hτ rfl rfl rfl ?_
  refine awl_nil ?_
  refine aw_seq ?_
  refine aw_seq ?_
  refine aw_region ?_
  refine awl_val hτ rfl rfl rfl ?_
  refine awl_nil ?_
  refine aw_block ?_
  refine aw_loop (ι := Nat × List SBus × Int × Int) (fun (m85, v61, v62, v63) => St.of [(0, .row 0 v61.length 0 v61.length), (1, .d (.int .i64 v62)), (5, .d (.int .i64 v63))] [.row 8 (v61.map eSBus)] f88.ntmps 1) (fun (m85, v61, v62, v63) => m_laws_markBusS_l1 n m85 v61 v62 v63 = some r) (fun x => x.1) (n, a_, k_, (0 : Int)) h (weak_ofP [0] (l := [(0, .row 0 a_.length 0 a_.length), (1, .d (.int .i64 k_)), (5, .d (.int .i64 (0 : Int)))]) (objs := [.row 8 (a_.map eSBus)]) rfl (by simp) rfl (by repeat' first | exact trivial | refine ⟨?_, ?_⟩) ⟨rfl, trivial, rfl, trivial, rfl, trivial, trivial⟩) ?_
  rintro ⟨m85, v61, v62, v63⟩ h
  replace h : m_laws_markBusS_l1 n m85 v61 v62 v63 = some r := h
  rcases m85 with _ | m85
  · rw [m_laws_markBusS_l1] at h; cases h
  rw [m_laws_markBusS_l1] at h
  refine aw_seq ?_
  refine aw_seq ?_
  refine aw_region ?_
  refine awl_val hτ rfl rfl rfl ?_
  refine awl_val hτ rfl rfl rfl ?_
  refine awl_need hτ rfl rfl rfl (len_map _) ?_
  refine awl_val hτ rfl rfl rfl ?_
  refine awl_nil ?_
  refine aw_cond rfl (fun hc87 => ?_) (fun hc87 => ?_)
  · have h := if_t h hc87
    refine aw_skip ?_
    refine aw_seq ?_
    refine aw_block ?_
    refine aw_seq ?_
    refine aw_region ?_
    refine awl_val hτ rfl rfl rfl ?_
    refine awl_val hτ rfl rfl rfl ?_
    refine awl_val hτ rfl rfl rfl ?_
    refine bnd_elim h fun x88 hx88 h => ?_
    refine awl_need hτ rfl rfl rfl (row_need hx88) ?_
    refine awl_need hτ rfl rfl rfl (len_map _) ?_
    refine awl_elemH hτ rfl rfl rfl (len_map _) (row_get hx88) (set_val (f := eSBus) (l := v61) (i := v63) (y := (SBus.mk v62 x88.Own x88.Shared x88.Kind x88.Load x88.Customers)) rfl) ?_
    refine awl_nil ?_
    refine aw_seq ?_
    refine aw_weak (weak_ofP [0] (l := [(0, .row 0 ((v61.set v63.toNat (SBus.mk v62 x88.Own x88.Shared x88.Kind x88.Load x88.Customers)).length) 0 ((v61.set v63.toNat (SBus.mk v62 x88.Own x88.Shared x88.Kind x88.Load x88.Customers)).length)), (1, .d (.int .i64 v62)), (5, .d (.int .i64 v63))]) (objs := [.row 8 ((v61.set v63.toNat (SBus.mk v62 x88.Own x88.Shared x88.Kind x88.Load x88.Customers)).map eSBus)]) rfl (by simp) rfl (by repeat' first | exact trivial | refine ⟨?_, ?_⟩) ⟨(exV_rowL rfl (by simp)), trivial, rfl, trivial, rfl, trivial, trivial⟩) ?_
    refine aw_region ?_
    refine awl_val hτ rfl rfl rfl ?_
    refine awl_val hτ rfl rfl rfl ?_
    refine awl_val hτ rfl rfl rfl ?_
    refine awl_nil ?_
    refine aw_seq ?_
    refine aw_region ?_
    refine awl_val hτ rfl rfl rfl ?_
    refine awl_val hτ rfl rfl rfl ?_
    refine awl_val hτ rfl rfl rfl ?_
    refine awl_val hτ rfl rfl rfl ?_
    refine awl_val hτ rfl rfl rfl ?_
    refine bnd_elim h fun x89 hx89 h => ?_
    refine bnd_elim h fun x90 hx90 h => ?_
    refine awl_x rfl rfl (x_c2c hτ rfl rfl rfl rfl rfl rfl hx89 hx90) ?_
    refine bnd_elim h fun x91 hx91 h => ?_
    refine awl_need hτ rfl rfl rfl (row_need hx91) ?_
    refine awl_need hτ rfl rfl rfl (len_map _) ?_
    refine awl_elemH hτ rfl rfl rfl (len_map _) (row_get hx91) (set_val (f := eSBus) (l := (v61.set v63.toNat (SBus.mk v62 x88.Own x88.Shared x88.Kind x88.Load x88.Customers))) (i := v63) (y := (SBus.mk x91.Parent (Cx.mk x89 x90) x91.Shared x91.Kind x91.Load x91.Customers)) rfl) ?_
    refine awl_nil ?_
    refine aw_seq ?_
    refine aw_weak (weak_ofP [0] (l := [(0, .row 0 (((v61.set v63.toNat (SBus.mk v62 x88.Own x88.Shared x88.Kind x88.Load x88.Customers)).set v63.toNat (SBus.mk x91.Parent (Cx.mk x89 x90) x91.Shared x91.Kind x91.Load x91.Customers)).length) 0 (((v61.set v63.toNat (SBus.mk v62 x88.Own x88.Shared x88.Kind x88.Load x88.Customers)).set v63.toNat (SBus.mk x91.Parent (Cx.mk x89 x90) x91.Shared x91.Kind x91.Load x91.Customers)).length)), (1, .d (.int .i64 (w64 (v62 + (1 : Int))))), (5, .d (.int .i64 v63))]) (objs := [.row 8 (((v61.set v63.toNat (SBus.mk v62 x88.Own x88.Shared x88.Kind x88.Load x88.Customers)).set v63.toNat (SBus.mk x91.Parent (Cx.mk x89 x90) x91.Shared x91.Kind x91.Load x91.Customers)).map eSBus)]) rfl (by simp) rfl (by repeat' first | exact trivial | refine ⟨?_, ?_⟩) ⟨(exV_rowL rfl (by simp)), trivial, rfl, trivial, rfl, trivial, trivial⟩) ?_
    refine aw_region ?_
    refine awl_val hτ rfl rfl rfl ?_
    refine awl_val hτ rfl rfl rfl ?_
    refine awl_val hτ rfl rfl rfl ?_
    refine awl_nil ?_
    refine aw_seq ?_
    refine aw_region ?_
    refine awl_val hτ rfl rfl rfl ?_
    refine awl_val hτ rfl rfl rfl ?_
    refine awl_val hτ rfl rfl rfl ?_
    refine awl_val hτ rfl rfl rfl ?_
    refine awl_val hτ rfl rfl rfl ?_
    refine bnd_elim h fun x92 hx92 h => ?_
    refine bnd_elim h fun x93 hx93 h => ?_
    refine awl_x rfl rfl (x_c2c hτ rfl rfl rfl rfl rfl rfl hx92 hx93) ?_
    refine bnd_elim h fun x94 hx94 h => ?_
    refine awl_need hτ rfl rfl rfl (row_need hx94) ?_
    refine awl_need hτ rfl rfl rfl (len_map _) ?_
    refine awl_elemH hτ rfl rfl rfl (len_map _) (row_get hx94) (set_val (f := eSBus) (l := ((v61.set v63.toNat (SBus.mk v62 x88.Own x88.Shared x88.Kind x88.Load x88.Customers)).set v63.toNat (SBus.mk x91.Parent (Cx.mk x89 x90) x91.Shared x91.Kind x91.Load x91.Customers))) (i := v63) (y := (SBus.mk x94.Parent x94.Own (Cx.mk x92 x93) x94.Kind x94.Load x94.Customers)) rfl) ?_
    refine awl_nil ?_
    refine aw_seq ?_
    refine aw_weak (weak_ofP [0] (l := [(0, .row 0 ((((v61.set v63.toNat (SBus.mk v62 x88.Own x88.Shared x88.Kind x88.Load x88.Customers)).set v63.toNat (SBus.mk x91.Parent (Cx.mk x89 x90) x91.Shared x91.Kind x91.Load x91.Customers)).set v63.toNat (SBus.mk x94.Parent x94.Own (Cx.mk x92 x93) x94.Kind x94.Load x94.Customers)).length) 0 ((((v61.set v63.toNat (SBus.mk v62 x88.Own x88.Shared x88.Kind x88.Load x88.Customers)).set v63.toNat (SBus.mk x91.Parent (Cx.mk x89 x90) x91.Shared x91.Kind x91.Load x91.Customers)).set v63.toNat (SBus.mk x94.Parent x94.Own (Cx.mk x92 x93) x94.Kind x94.Load x94.Customers)).length)), (1, .d (.int .i64 (w64 ((w64 (v62 + (1 : Int))) + (1 : Int))))), (5, .d (.int .i64 v63))]) (objs := [.row 8 ((((v61.set v63.toNat (SBus.mk v62 x88.Own x88.Shared x88.Kind x88.Load x88.Customers)).set v63.toNat (SBus.mk x91.Parent (Cx.mk x89 x90) x91.Shared x91.Kind x91.Load x91.Customers)).set v63.toNat (SBus.mk x94.Parent x94.Own (Cx.mk x92 x93) x94.Kind x94.Load x94.Customers)).map eSBus)]) rfl (by simp) rfl (by repeat' first | exact trivial | refine ⟨?_, ?_⟩) ⟨(exV_rowL rfl (by simp)), trivial, rfl, trivial, rfl, trivial, trivial⟩) ?_
    refine aw_region ?_
    refine awl_val hτ rfl rfl rfl ?_
    refine awl_val hτ rfl rfl rfl ?_
    refine awl_val hτ rfl rfl rfl ?_
    refine awl_nil ?_
    refine aw_seq ?_
    refine aw_region ?_
    refine awl_val hτ rfl rfl rfl ?_
    refine awl_val hτ rfl rfl rfl ?_
    refine awl_val hτ rfl rfl rfl ?_
    refine bnd_elim h fun x95 hx95 h => ?_
    refine awl_need hτ rfl rfl rfl (row_need hx95) ?_
    refine awl_need hτ rfl rfl rfl (len_map _) ?_
    refine awl_elemH hτ rfl rfl rfl (len_map _) (row_get hx95) (set_val (f := eSBus) (l := (((v61.set v63.toNat (SBus.mk v62 x88.Own x88.Shared x88.Kind x88.Load x88.Customers)).set v63.toNat (SBus.mk x91.Parent (Cx.mk x89 x90) x91.Shared x91.Kind x91.Load x91.Customers)).set v63.toNat (SBus.mk x94.Parent x94.Own (Cx.mk x92 x93) x94.Kind x94.Load x94.Customers))) (i := v63) (y := (SBus.mk x95.Parent x95.Own x95.Shared (w64 ((w64 ((w64 (v62 + (1 : Int))) + (1 : Int))) + (1 : Int))) x95.Load x95.Customers)) rfl) ?_
    refine awl_nil ?_
    refine aw_seq ?_
    refine aw_weak (weak_ofP [0] (l := [(0, .row 0 (((((v61.set v63.toNat (SBus.mk v62 x88.Own x88.Shared x88.Kind x88.Load x88.Customers)).set v63.toNat (SBus.mk x91.Parent (Cx.mk x89 x90) x91.Shared x91.Kind x91.Load x91.Customers)).set v63.toNat (SBus.mk x94.Parent x94.Own (Cx.mk x92 x93) x94.Kind x94.Load x94.Customers)).set v63.toNat (SBus.mk x95.Parent x95.Own x95.Shared (w64 ((w64 ((w64 (v62 + (1 : Int))) + (1 : Int))) + (1 : Int))) x95.Load x95.Customers)).length) 0 (((((v61.set v63.toNat (SBus.mk v62 x88.Own x88.Shared x88.Kind x88.Load x88.Customers)).set v63.toNat (SBus.mk x91.Parent (Cx.mk x89 x90) x91.Shared x91.Kind x91.Load x91.Customers)).set v63.toNat (SBus.mk x94.Parent x94.Own (Cx.mk x92 x93) x94.Kind x94.Load x94.Customers)).set v63.toNat (SBus.mk x95.Parent x95.Own x95.Shared (w64 ((w64 ((w64 (v62 + (1 : Int))) + (1 : Int))) + (1 : Int))) x95.Load x95.Customers)).length)), (1, .d (.int .i64 (w64 ((w64 ((w64 (v62 + (1 : Int))) + (1 : Int))) + (1 : Int))))), (5, .d (.int .i64 v63))]) (objs := [.row 8 (((((v61.set v63.toNat (SBus.mk v62 x88.Own x88.Shared x88.Kind x88.Load x88.Customers)).set v63.toNat (SBus.mk x91.Parent (Cx.mk x89 x90) x91.Shared x91.Kind x91.Load x91.Customers)).set v63.toNat (SBus.mk x94.Parent x94.Own (Cx.mk x92 x93) x94.Kind x94.Load x94.Customers)).set v63.toNat (SBus.mk x95.Parent x95.Own x95.Shared (w64 ((w64 ((w64 (v62 + (1 : Int))) + (1 : Int))) + (1 : Int))) x95.Load x95.Customers)).map eSBus)]) rfl (by simp) rfl (by repeat' first | exact trivial | refine ⟨?_, ?_⟩) ⟨(exV_rowL rfl (by simp)), trivial, rfl, trivial, rfl, trivial, trivial⟩) ?_
    refine aw_region ?_
    refine awl_val hτ rfl rfl rfl ?_
    refine awl_val hτ rfl rfl rfl ?_
    refine awl_val hτ rfl rfl rfl ?_
    refine awl_nil ?_
    refine aw_seq ?_
    refine aw_region ?_
    refine awl_val hτ rfl rfl rfl ?_
    refine awl_val hτ rfl rfl rfl ?_
    refine awl_val hτ rfl rfl rfl ?_
    refine awl_val hτ rfl rfl rfl ?_
    refine awl_val hτ rfl rfl rfl ?_
    refine bnd_elim h fun x96 hx96 h => ?_
    refine bnd_elim h fun x97 hx97 h => ?_
    refine awl_x rfl rfl (x_c2c hτ rfl rfl rfl rfl rfl rfl hx96 hx97) ?_
    refine bnd_elim h fun x98 hx98 h => ?_
    refine awl_need hτ rfl rfl rfl (row_need hx98) ?_
    refine awl_need hτ rfl rfl rfl (len_map _) ?_
    refine awl_need hτ rfl rfl rfl (len_map _) ?_
    refine awl_weak (weak_ofP [0] (l := [(0, .row 0 (((((v61.set v63.toNat (SBus.mk v62 x88.Own x88.Shared x88.Kind x88.Load x88.Customers)).set v63.toNat (SBus.mk x91.Parent (Cx.mk x89 x90) x91.Shared x91.Kind x91.Load x91.Customers)).set v63.toNat (SBus.mk x94.Parent x94.Own (Cx.mk x92 x93) x94.Kind x94.Load x94.Customers)).set v63.toNat (SBus.mk x95.Parent x95.Own x95.Shared (w64 ((w64 ((w64 (v62 + (1 : Int))) + (1 : Int))) + (1 : Int))) x95.Load x95.Customers)).length) 0 (((((v61.set v63.toNat (SBus.mk v62 x88.Own x88.Shared x88.Kind x88.Load x88.Customers)).set v63.toNat (SBus.mk x91.Parent (Cx.mk x89 x90) x91.Shared x91.Kind x91.Load x91.Customers)).set v63.toNat (SBus.mk x94.Parent x94.Own (Cx.mk x92 x93) x94.Kind x94.Load x94.Customers)).set v63.toNat (SBus.mk x95.Parent x95.Own x95.Shared (w64 ((w64 ((w64 (v62 + (1 : Int))) + (1 : Int))) + (1 : Int))) x95.Load x95.Customers)).length)), (1, .d (.int .i64 (w64 ((w64 ((w64 ((w64 (v62 + (1 : Int))) + (1 : Int))) + (1 : Int))) + (1 : Int))))), (5, .d (.int .i64 v63)), (51, .d (.cx .f32 x96 x97)), (54, .eptr 0 (((((v61.set v63.toNat (SBus.mk v62 x88.Own x88.Shared x88.Kind x88.Load x88.Customers)).set v63.toNat (SBus.mk x91.Parent (Cx.mk x89 x90) x91.Shared x91.Kind x91.Load x91.Customers)).set v63.toNat (SBus.mk x94.Parent x94.Own (Cx.mk x92 x93) x94.Kind x94.Load x94.Customers)).set v63.toNat (SBus.mk x95.Parent x95.Own x95.Shared (w64 ((w64 ((w64 (v62 + (1 : Int))) + (1 : Int))) + (1 : Int))) x95.Load x95.Customers)).length) (0 + v63.toNat) 4)]) (objs := [.row 8 (((((v61.set v63.toNat (SBus.mk v62 x88.Own x88.Shared x88.Kind x88.Load x88.Customers)).set v63.toNat (SBus.mk x91.Parent (Cx.mk x89 x90) x91.Shared x91.Kind x91.Load x91.Customers)).set v63.toNat (SBus.mk x94.Parent x94.Own (Cx.mk x92 x93) x94.Kind x94.Load x94.Customers)).set v63.toNat (SBus.mk x95.Parent x95.Own x95.Shared (w64 ((w64 ((w64 (v62 + (1 : Int))) + (1 : Int))) + (1 : Int))) x95.Load x95.Customers)).map eSBus)]) rfl (by simp) rfl (by repeat' first | exact trivial | refine ⟨?_, ?_⟩) ⟨rfl, trivial, rfl, trivial, rfl, trivial, rfl, trivial, rfl, trivial, trivial⟩) ?_
    refine awl_elemH hτ rfl rfl rfl (len_map _) (row_get hx98) (set_val (f := eSBus) (l := ((((v61.set v63.toNat (SBus.mk v62 x88.Own x88.Shared x88.Kind x88.Load x88.Customers)).set v63.toNat (SBus.mk x91.Parent (Cx.mk x89 x90) x91.Shared x91.Kind x91.Load x91.Customers)).set v63.toNat (SBus.mk x94.Parent x94.Own (Cx.mk x92 x93) x94.Kind x94.Load x94.Customers)).set v63.toNat (SBus.mk x95.Parent x95.Own x95.Shared (w64 ((w64 ((w64 (v62 + (1 : Int))) + (1 : Int))) + (1 : Int))) x95.Load x95.Customers))) (i := v63) (y := (SBus.mk x98.Parent x98.Own x98.Shared x98.Kind (SPhases.mk (Cx.mk x96 x97) x98.Load.B x98.Load.C) x98.Customers)) rfl) ?_
    refine awl_nil ?_
    refine aw_seq ?_
    refine aw_region ?_
    refine awl_val hτ rfl rfl rfl ?_
    refine awl_val hτ rfl rfl rfl ?_
    refine awl_val hτ rfl rfl rfl ?_
    refine awl_nil ?_
    refine aw_seq ?_
    refine aw_region ?_
    refine awl_val hτ rfl rfl rfl ?_
    refine awl_val hτ rfl rfl rfl ?_
    refine awl_val hτ rfl rfl rfl ?_
    refine awl_val hτ rfl rfl rfl ?_
    refine awl_val hτ rfl rfl rfl ?_
    refine bnd_elim h fun x99 hx99 h => ?_
    refine bnd_elim h fun x100 hx100 h => ?_
    refine awl_x rfl rfl (x_c2c hτ rfl rfl rfl rfl rfl rfl hx99 hx100) ?_
    refine bnd_elim h fun x101 hx101 h => ?_
    refine awl_need hτ rfl rfl rfl (row_needL hx101 (by simp)) ?_
    refine awl_need hτ rfl rfl rfl (by simp) ?_
    refine awl_weak (weak_ofP [0] (l := [(0, .row 0 ((((((v61.set v63.toNat (SBus.mk v62 x88.Own x88.Shared x88.Kind x88.Load x88.Customers)).set v63.toNat (SBus.mk x91.Parent (Cx.mk x89 x90) x91.Shared x91.Kind x91.Load x91.Customers)).set v63.toNat (SBus.mk x94.Parent x94.Own (Cx.mk x92 x93) x94.Kind x94.Load x94.Customers)).set v63.toNat (SBus.mk x95.Parent x95.Own x95.Shared (w64 ((w64 ((w64 (v62 + (1 : Int))) + (1 : Int))) + (1 : Int))) x95.Load x95.Customers)).set v63.toNat (SBus.mk x98.Parent x98.Own x98.Shared x98.Kind (SPhases.mk (Cx.mk x96 x97) x98.Load.B x98.Load.C) x98.Customers)).length) 0 ((((((v61.set v63.toNat (SBus.mk v62 x88.Own x88.Shared x88.Kind x88.Load x88.Customers)).set v63.toNat (SBus.mk x91.Parent (Cx.mk x89 x90) x91.Shared x91.Kind x91.Load x91.Customers)).set v63.toNat (SBus.mk x94.Parent x94.Own (Cx.mk x92 x93) x94.Kind x94.Load x94.Customers)).set v63.toNat (SBus.mk x95.Parent x95.Own x95.Shared (w64 ((w64 ((w64 (v62 + (1 : Int))) + (1 : Int))) + (1 : Int))) x95.Load x95.Customers)).set v63.toNat (SBus.mk x98.Parent x98.Own x98.Shared x98.Kind (SPhases.mk (Cx.mk x96 x97) x98.Load.B x98.Load.C) x98.Customers)).length)), (1, .d (.int .i64 (w64 ((w64 ((w64 ((w64 ((w64 (v62 + (1 : Int))) + (1 : Int))) + (1 : Int))) + (1 : Int))) + (1 : Int))))), (5, .d (.int .i64 v63)), (62, .d (.cx .f32 x99 x100)), (64, .eptr 0 (((((v61.set v63.toNat (SBus.mk v62 x88.Own x88.Shared x88.Kind x88.Load x88.Customers)).set v63.toNat (SBus.mk x91.Parent (Cx.mk x89 x90) x91.Shared x91.Kind x91.Load x91.Customers)).set v63.toNat (SBus.mk x94.Parent x94.Own (Cx.mk x92 x93) x94.Kind x94.Load x94.Customers)).set v63.toNat (SBus.mk x95.Parent x95.Own x95.Shared (w64 ((w64 ((w64 (v62 + (1 : Int))) + (1 : Int))) + (1 : Int))) x95.Load x95.Customers)).length) (0 + v63.toNat) 4)]) (objs := [.row 8 ((((((v61.set v63.toNat (SBus.mk v62 x88.Own x88.Shared x88.Kind x88.Load x88.Customers)).set v63.toNat (SBus.mk x91.Parent (Cx.mk x89 x90) x91.Shared x91.Kind x91.Load x91.Customers)).set v63.toNat (SBus.mk x94.Parent x94.Own (Cx.mk x92 x93) x94.Kind x94.Load x94.Customers)).set v63.toNat (SBus.mk x95.Parent x95.Own x95.Shared (w64 ((w64 ((w64 (v62 + (1 : Int))) + (1 : Int))) + (1 : Int))) x95.Load x95.Customers)).set v63.toNat (SBus.mk x98.Parent x98.Own x98.Shared x98.Kind (SPhases.mk (Cx.mk x96 x97) x98.Load.B x98.Load.C) x98.Customers)).map eSBus)]) rfl (by simp) rfl (by repeat' first | exact trivial | refine ⟨?_, ?_⟩) ⟨(exV_rowL rfl (by simp)), trivial, rfl, trivial, rfl, trivial, rfl, trivial, rfl, trivial, trivial⟩) ?_
    refine awl_need hτ rfl rfl rfl (by simp) ?_
    refine awl_elemH hτ rfl rfl rfl (by simp) (row_get hx101) (set_val (f := eSBus) (l := (((((v61.set v63.toNat (SBus.mk v62 x88.Own x88.Shared x88.Kind x88.Load x88.Customers)).set v63.toNat (SBus.mk x91.Parent (Cx.mk x89 x90) x91.Shared x91.Kind x91.Load x91.Customers)).set v63.toNat (SBus.mk x94.Parent x94.Own (Cx.mk x92 x93) x94.Kind x94.Load x94.Customers)).set v63.toNat (SBus.mk x95.Parent x95.Own x95.Shared (w64 ((w64 ((w64 (v62 + (1 : Int))) + (1 : Int))) + (1 : Int))) x95.Load x95.Customers)).set v63.toNat (SBus.mk x98.Parent x98.Own x98.Shared x98.Kind (SPhases.mk (Cx.mk x96 x97) x98.Load.B x98.Load.C) x98.Customers))) (i := v63) (y := (SBus.mk x101.Parent x101.Own x101.Shared x101.Kind (SPhases.mk x101.Load.A (Cx.mk x99 x100) x101.Load.C) x101.Customers)) rfl) ?_
    refine awl_nil ?_
    refine aw_seq ?_
    refine aw_region ?_
    refine awl_val hτ rfl rfl rfl ?_
    refine awl_val hτ rfl rfl rfl ?_
    refine awl_val hτ rfl rfl rfl ?_
    refine awl_nil ?_
    refine aw_seq ?_
    refine aw_region ?_
    refine awl_val hτ rfl rfl rfl ?_
    refine awl_val hτ rfl rfl rfl ?_
    refine awl_val hτ rfl rfl rfl ?_
    refine awl_val hτ rfl rfl rfl ?_
    refine awl_val hτ rfl rfl rfl ?_
    refine bnd_elim h fun x102 hx102 h => ?_
    refine bnd_elim h fun x103 hx103 h => ?_
    refine awl_x rfl rfl (x_c2c hτ rfl rfl rfl rfl rfl rfl hx102 hx103) ?_
    refine bnd_elim h fun x104 hx104 h => ?_
    refine awl_need hτ rfl rfl rfl (row_needL hx104 (by simp)) ?_
    refine awl_weak (weak_ofP [0] (l := [(0, .row 0 (((((((v61.set v63.toNat (SBus.mk v62 x88.Own x88.Shared x88.Kind x88.Load x88.Customers)).set v63.toNat (SBus.mk x91.Parent (Cx.mk x89 x90) x91.Shared x91.Kind x91.Load x91.Customers)).set v63.toNat (SBus.mk x94.Parent x94.Own (Cx.mk x92 x93) x94.Kind x94.Load x94.Customers)).set v63.toNat (SBus.mk x95.Parent x95.Own x95.Shared (w64 ((w64 ((w64 (v62 + (1 : Int))) + (1 : Int))) + (1 : Int))) x95.Load x95.Customers)).set v63.toNat (SBus.mk x98.Parent x98.Own x98.Shared x98.Kind (SPhases.mk (Cx.mk x96 x97) x98.Load.B x98.Load.C) x98.Customers)).set v63.toNat (SBus.mk x101.Parent x101.Own x101.Shared x101.Kind (SPhases.mk x101.Load.A (Cx.mk x99 x100) x101.Load.C) x101.Customers)).length) 0 (((((((v61.set v63.toNat (SBus.mk v62 x88.Own x88.Shared x88.Kind x88.Load x88.Customers)).set v63.toNat (SBus.mk x91.Parent (Cx.mk x89 x90) x91.Shared x91.Kind x91.Load x91.Customers)).set v63.toNat (SBus.mk x94.Parent x94.Own (Cx.mk x92 x93) x94.Kind x94.Load x94.Customers)).set v63.toNat (SBus.mk x95.Parent x95.Own x95.Shared (w64 ((w64 ((w64 (v62 + (1 : Int))) + (1 : Int))) + (1 : Int))) x95.Load x95.Customers)).set v63.toNat (SBus.mk x98.Parent x98.Own x98.Shared x98.Kind (SPhases.mk (Cx.mk x96 x97) x98.Load.B x98.Load.C) x98.Customers)).set v63.toNat (SBus.mk x101.Parent x101.Own x101.Shared x101.Kind (SPhases.mk x101.Load.A (Cx.mk x99 x100) x101.Load.C) x101.Customers)).length)), (1, .d (.int .i64 (w64 ((w64 ((w64 ((w64 ((w64 ((w64 (v62 + (1 : Int))) + (1 : Int))) + (1 : Int))) + (1 : Int))) + (1 : Int))) + (1 : Int))))), (5, .d (.int .i64 v63)), (73, .d (.cx .f32 x102 x103)), (74, .eptr 0 ((((((v61.set v63.toNat (SBus.mk v62 x88.Own x88.Shared x88.Kind x88.Load x88.Customers)).set v63.toNat (SBus.mk x91.Parent (Cx.mk x89 x90) x91.Shared x91.Kind x91.Load x91.Customers)).set v63.toNat (SBus.mk x94.Parent x94.Own (Cx.mk x92 x93) x94.Kind x94.Load x94.Customers)).set v63.toNat (SBus.mk x95.Parent x95.Own x95.Shared (w64 ((w64 ((w64 (v62 + (1 : Int))) + (1 : Int))) + (1 : Int))) x95.Load x95.Customers)).set v63.toNat (SBus.mk x98.Parent x98.Own x98.Shared x98.Kind (SPhases.mk (Cx.mk x96 x97) x98.Load.B x98.Load.C) x98.Customers)).length) (0 + v63.toNat) 0)]) (objs := [.row 8 (((((((v61.set v63.toNat (SBus.mk v62 x88.Own x88.Shared x88.Kind x88.Load x88.Customers)).set v63.toNat (SBus.mk x91.Parent (Cx.mk x89 x90) x91.Shared x91.Kind x91.Load x91.Customers)).set v63.toNat (SBus.mk x94.Parent x94.Own (Cx.mk x92 x93) x94.Kind x94.Load x94.Customers)).set v63.toNat (SBus.mk x95.Parent x95.Own x95.Shared (w64 ((w64 ((w64 (v62 + (1 : Int))) + (1 : Int))) + (1 : Int))) x95.Load x95.Customers)).set v63.toNat (SBus.mk x98.Parent x98.Own x98.Shared x98.Kind (SPhases.mk (Cx.mk x96 x97) x98.Load.B x98.Load.C) x98.Customers)).set v63.toNat (SBus.mk x101.Parent x101.Own x101.Shared x101.Kind (SPhases.mk x101.Load.A (Cx.mk x99 x100) x101.Load.C) x101.Customers)).map eSBus)]) rfl (by simp) rfl (by repeat' first | exact trivial | refine ⟨?_, ?_⟩) ⟨(exV_rowL rfl (by simp)), trivial, rfl, trivial, rfl, trivial, rfl, trivial, rfl, trivial, trivial⟩) ?_
    refine awl_need hτ rfl rfl rfl (by simp) ?_
    refine awl_need hτ rfl rfl rfl (by simp) ?_
    refine awl_elemH hτ rfl rfl rfl (by simp) (row_get hx104) (set_val (f := eSBus) (l := ((((((v61.set v63.toNat (SBus.mk v62 x88.Own x88.Shared x88.Kind x88.Load x88.Customers)).set v63.toNat (SBus.mk x91.Parent (Cx.mk x89 x90) x91.Shared x91.Kind x91.Load x91.Customers)).set v63.toNat (SBus.mk x94.Parent x94.Own (Cx.mk x92 x93) x94.Kind x94.Load x94.Customers)).set v63.toNat (SBus.mk x95.Parent x95.Own x95.Shared (w64 ((w64 ((w64 (v62 + (1 : Int))) + (1 : Int))) + (1 : Int))) x95.Load x95.Customers)).set v63.toNat (SBus.mk x98.Parent x98.Own x98.Shared x98.Kind (SPhases.mk (Cx.mk x96 x97) x98.Load.B x98.Load.C) x98.Customers)).set v63.toNat (SBus.mk x101.Parent x101.Own x101.Shared x101.Kind (SPhases.mk x101.Load.A (Cx.mk x99 x100) x101.Load.C) x101.Customers))) (i := v63) (y := (SBus.mk x104.Parent x104.Own x104.Shared x104.Kind (SPhases.mk x104.Load.A x104.Load.B (Cx.mk x102 x103)) x104.Customers)) rfl) ?_
    refine awl_nil ?_
    refine aw_seq ?_
    refine aw_region ?_
    refine awl_val hτ rfl rfl rfl ?_
    refine awl_val hτ rfl rfl rfl ?_
    refine awl_val hτ rfl rfl rfl ?_
    refine awl_nil ?_
    refine aw_seq ?_
    refine aw_weak (weak_ofP [0] (l := [(0, .row 0 ((((((((v61.set v63.toNat (SBus.mk v62 x88.Own x88.Shared x88.Kind x88.Load x88.Customers)).set v63.toNat (SBus.mk x91.Parent (Cx.mk x89 x90) x91.Shared x91.Kind x91.Load x91.Customers)).set v63.toNat (SBus.mk x94.Parent x94.Own (Cx.mk x92 x93) x94.Kind x94.Load x94.Customers)).set v63.toNat (SBus.mk x95.Parent x95.Own x95.Shared (w64 ((w64 ((w64 (v62 + (1 : Int))) + (1 : Int))) + (1 : Int))) x95.Load x95.Customers)).set v63.toNat (SBus.mk x98.Parent x98.Own x98.Shared x98.Kind (SPhases.mk (Cx.mk x96 x97) x98.Load.B x98.Load.C) x98.Customers)).set v63.toNat (SBus.mk x101.Parent x101.Own x101.Shared x101.Kind (SPhases.mk x101.Load.A (Cx.mk x99 x100) x101.Load.C) x101.Customers)).set v63.toNat (SBus.mk x104.Parent x104.Own x104.Shared x104.Kind (SPhases.mk x104.Load.A x104.Load.B (Cx.mk x102 x103)) x104.Customers)).length) 0 ((((((((v61.set v63.toNat (SBus.mk v62 x88.Own x88.Shared x88.Kind x88.Load x88.Customers)).set v63.toNat (SBus.mk x91.Parent (Cx.mk x89 x90) x91.Shared x91.Kind x91.Load x91.Customers)).set v63.toNat (SBus.mk x94.Parent x94.Own (Cx.mk x92 x93) x94.Kind x94.Load x94.Customers)).set v63.toNat (SBus.mk x95.Parent x95.Own x95.Shared (w64 ((w64 ((w64 (v62 + (1 : Int))) + (1 : Int))) + (1 : Int))) x95.Load x95.Customers)).set v63.toNat (SBus.mk x98.Parent x98.Own x98.Shared x98.Kind (SPhases.mk (Cx.mk x96 x97) x98.Load.B x98.Load.C) x98.Customers)).set v63.toNat (SBus.mk x101.Parent x101.Own x101.Shared x101.Kind (SPhases.mk x101.Load.A (Cx.mk x99 x100) x101.Load.C) x101.Customers)).set v63.toNat (SBus.mk x104.Parent x104.Own x104.Shared x104.Kind (SPhases.mk x104.Load.A x104.Load.B (Cx.mk x102 x103)) x104.Customers)).length)), (1, .d (.int .i64 (w64 ((w64 ((w64 ((w64 ((w64 ((w64 ((w64 (v62 + (1 : Int))) + (1 : Int))) + (1 : Int))) + (1 : Int))) + (1 : Int))) + (1 : Int))) + (1 : Int))))), (5, .d (.int .i64 v63))]) (objs := [.row 8 ((((((((v61.set v63.toNat (SBus.mk v62 x88.Own x88.Shared x88.Kind x88.Load x88.Customers)).set v63.toNat (SBus.mk x91.Parent (Cx.mk x89 x90) x91.Shared x91.Kind x91.Load x91.Customers)).set v63.toNat (SBus.mk x94.Parent x94.Own (Cx.mk x92 x93) x94.Kind x94.Load x94.Customers)).set v63.toNat (SBus.mk x95.Parent x95.Own x95.Shared (w64 ((w64 ((w64 (v62 + (1 : Int))) + (1 : Int))) + (1 : Int))) x95.Load x95.Customers)).set v63.toNat (SBus.mk x98.Parent x98.Own x98.Shared x98.Kind (SPhases.mk (Cx.mk x96 x97) x98.Load.B x98.Load.C) x98.Customers)).set v63.toNat (SBus.mk x101.Parent x101.Own x101.Shared x101.Kind (SPhases.mk x101.Load.A (Cx.mk x99 x100) x101.Load.C) x101.Customers)).set v63.toNat (SBus.mk x104.Parent x104.Own x104.Shared x104.Kind (SPhases.mk x104.Load.A x104.Load.B (Cx.mk x102 x103)) x104.Customers)).map eSBus)]) rfl (by simp) rfl (by repeat' first | exact trivial | refine ⟨?_, ?_⟩) ⟨(exV_rowL rfl (by simp)), trivial, rfl, trivial, rfl, trivial, trivial⟩) ?_
    refine aw_region ?_
    refine awl_val hτ rfl rfl rfl ?_
    refine awl_val hτ rfl rfl rfl ?_
    refine awl_val hτ rfl rfl rfl ?_
    refine bnd_elim h fun x105 hx105 h => ?_
    refine awl_need hτ rfl rfl rfl (row_need hx105) ?_
    refine awl_need hτ rfl rfl rfl (len_map _) ?_
    refine awl_elemH hτ rfl rfl rfl (len_map _) (row_get hx105) (set_val (f := eSBus) (l := (((((((v61.set v63.toNat (SBus.mk v62 x88.Own x88.Shared x88.Kind x88.Load x88.Customers)).set v63.toNat (SBus.mk x91.Parent (Cx.mk x89 x90) x91.Shared x91.Kind x91.Load x91.Customers)).set v63.toNat (SBus.mk x94.Parent x94.Own (Cx.mk x92 x93) x94.Kind x94.Load x94.Customers)).set v63.toNat (SBus.mk x95.Parent x95.Own x95.Shared (w64 ((w64 ((w64 (v62 + (1 : Int))) + (1 : Int))) + (1 : Int))) x95.Load x95.Customers)).set v63.toNat (SBus.mk x98.Parent x98.Own x98.Shared x98.Kind (SPhases.mk (Cx.mk x96 x97) x98.Load.B x98.Load.C) x98.Customers)).set v63.toNat (SBus.mk x101.Parent x101.Own x101.Shared x101.Kind (SPhases.mk x101.Load.A (Cx.mk x99 x100) x101.Load.C) x101.Customers)).set v63.toNat (SBus.mk x104.Parent x104.Own x104.Shared x104.Kind (SPhases.mk x104.Load.A x104.Load.B (Cx.mk x102 x103)) x104.Customers))) (i := v63) (y := (SBus.mk x105.Parent x105.Own x105.Shared x105.Kind x105.Load (w64 ((w64 ((w64 ((w64 ((w64 ((w64 ((w64 (v62 + (1 : Int))) + (1 : Int))) + (1 : Int))) + (1 : Int))) + (1 : Int))) + (1 : Int))) + (1 : Int))))) rfl) ?_
    refine awl_nil ?_
    refine aw_weak (weak_ofP [0] (l := [(0, .row 0 (((((((((v61.set v63.toNat (SBus.mk v62 x88.Own x88.Shared x88.Kind x88.Load x88.Customers)).set v63.toNat (SBus.mk x91.Parent (Cx.mk x89 x90) x91.Shared x91.Kind x91.Load x91.Customers)).set v63.toNat (SBus.mk x94.Parent x94.Own (Cx.mk x92 x93) x94.Kind x94.Load x94.Customers)).set v63.toNat (SBus.mk x95.Parent x95.Own x95.Shared (w64 ((w64 ((w64 (v62 + (1 : Int))) + (1 : Int))) + (1 : Int))) x95.Load x95.Customers)).set v63.toNat (SBus.mk x98.Parent x98.Own x98.Shared x98.Kind (SPhases.mk (Cx.mk x96 x97) x98.Load.B x98.Load.C) x98.Customers)).set v63.toNat (SBus.mk x101.Parent x101.Own x101.Shared x101.Kind (SPhases.mk x101.Load.A (Cx.mk x99 x100) x101.Load.C) x101.Customers)).set v63.toNat (SBus.mk x104.Parent x104.Own x104.Shared x104.Kind (SPhases.mk x104.Load.A x104.Load.B (Cx.mk x102 x103)) x104.Customers)).set v63.toNat (SBus.mk x105.Parent x105.Own x105.Shared x105.Kind x105.Load (w64 ((w64 ((w64 ((w64 ((w64 ((w64 ((w64 (v62 + (1 : Int))) + (1 : Int))) + (1 : Int))) + (1 : Int))) + (1 : Int))) + (1 : Int))) + (1 : Int))))).length) 0 (((((((((v61.set v63.toNat (SBus.mk v62 x88.Own x88.Shared x88.Kind x88.Load x88.Customers)).set v63.toNat (SBus.mk x91.Parent (Cx.mk x89 x90) x91.Shared x91.Kind x91.Load x91.Customers)).set v63.toNat (SBus.mk x94.Parent x94.Own (Cx.mk x92 x93) x94.Kind x94.Load x94.Customers)).set v63.toNat (SBus.mk x95.Parent x95.Own x95.Shared (w64 ((w64 ((w64 (v62 + (1 : Int))) + (1 : Int))) + (1 : Int))) x95.Load x95.Customers)).set v63.toNat (SBus.mk x98.Parent x98.Own x98.Shared x98.Kind (SPhases.mk (Cx.mk x96 x97) x98.Load.B x98.Load.C) x98.Customers)).set v63.toNat (SBus.mk x101.Parent x101.Own x101.Shared x101.Kind (SPhases.mk x101.Load.A (Cx.mk x99 x100) x101.Load.C) x101.Customers)).set v63.toNat (SBus.mk x104.Parent x104.Own x104.Shared x104.Kind (SPhases.mk x104.Load.A x104.Load.B (Cx.mk x102 x103)) x104.Customers)).set v63.toNat (SBus.mk x105.Parent x105.Own x105.Shared x105.Kind x105.Load (w64 ((w64 ((w64 ((w64 ((w64 ((w64 ((w64 (v62 + (1 : Int))) + (1 : Int))) + (1 : Int))) + (1 : Int))) + (1 : Int))) + (1 : Int))) + (1 : Int))))).length)), (1, .d (.int .i64 (w64 ((w64 ((w64 ((w64 ((w64 ((w64 ((w64 (v62 + (1 : Int))) + (1 : Int))) + (1 : Int))) + (1 : Int))) + (1 : Int))) + (1 : Int))) + (1 : Int))))), (5, .d (.int .i64 v63))]) (objs := [.row 8 (((((((((v61.set v63.toNat (SBus.mk v62 x88.Own x88.Shared x88.Kind x88.Load x88.Customers)).set v63.toNat (SBus.mk x91.Parent (Cx.mk x89 x90) x91.Shared x91.Kind x91.Load x91.Customers)).set v63.toNat (SBus.mk x94.Parent x94.Own (Cx.mk x92 x93) x94.Kind x94.Load x94.Customers)).set v63.toNat (SBus.mk x95.Parent x95.Own x95.Shared (w64 ((w64 ((w64 (v62 + (1 : Int))) + (1 : Int))) + (1 : Int))) x95.Load x95.Customers)).set v63.toNat (SBus.mk x98.Parent x98.Own x98.Shared x98.Kind (SPhases.mk (Cx.mk x96 x97) x98.Load.B x98.Load.C) x98.Customers)).set v63.toNat (SBus.mk x101.Parent x101.Own x101.Shared x101.Kind (SPhases.mk x101.Load.A (Cx.mk x99 x100) x101.Load.C) x101.Customers)).set v63.toNat (SBus.mk x104.Parent x104.Own x104.Shared x104.Kind (SPhases.mk x104.Load.A x104.Load.B (Cx.mk x102 x103)) x104.Customers)).set v63.toNat (SBus.mk x105.Parent x105.Own x105.Shared x105.Kind x105.Load (w64 ((w64 ((w64 ((w64 ((w64 ((w64 ((w64 (v62 + (1 : Int))) + (1 : Int))) + (1 : Int))) + (1 : Int))) + (1 : Int))) + (1 : Int))) + (1 : Int))))).map eSBus)]) rfl (by simp) rfl (by repeat' first | exact trivial | refine ⟨?_, ?_⟩) ⟨(exV_rowL rfl (by simp)), trivial, rfl, trivial, rfl, trivial, trivial⟩) ?_
    refine aw_region ?_
    refine awl_val hτ rfl rfl rfl ?_
    refine awl_val hτ rfl rfl rfl ?_
    refine awl_val hτ rfl rfl rfl ?_
    refine awl_nil ?_
    refine aw_region ?_
    refine awl_val hτ rfl rfl rfl ?_
    refine awl_val hτ rfl rfl rfl ?_
    refine awl_val hτ rfl rfl rfl ?_
    refine awl_nil ?_
    exact ⟨(m85, ((((((((v61.set v63.toNat (SBus.mk v62 x88.Own x88.Shared x88.Kind x88.Load x88.Customers)).set v63.toNat (SBus.mk x91.Parent (Cx.mk x89 x90) x91.Shared x91.Kind x91.Load x91.Customers)).set v63.toNat (SBus.mk x94.Parent x94.Own (Cx.mk x92 x93) x94.Kind x94.Load x94.Customers)).set v63.toNat (SBus.mk x95.Parent x95.Own x95.Shared (w64 ((w64 ((w64 (v62 + (1 : Int))) + (1 : Int))) + (1 : Int))) x95.Load x95.Customers)).set v63.toNat (SBus.mk x98.Parent x98.Own x98.Shared x98.Kind (SPhases.mk (Cx.mk x96 x97) x98.Load.B x98.Load.C) x98.Customers)).set v63.toNat (SBus.mk x101.Parent x101.Own x101.Shared x101.Kind (SPhases.mk x101.Load.A (Cx.mk x99 x100) x101.Load.C) x101.Customers)).set v63.toNat (SBus.mk x104.Parent x104.Own x104.Shared x104.Kind (SPhases.mk x104.Load.A x104.Load.B (Cx.mk x102 x103)) x104.Customers)).set v63.toNat (SBus.mk x105.Parent x105.Own x105.Shared x105.Kind x105.Load (w64 ((w64 ((w64 ((w64 ((w64 ((w64 ((w64 (v62 + (1 : Int))) + (1 : Int))) + (1 : Int))) + (1 : Int))) + (1 : Int))) + (1 : Int))) + (1 : Int))))), (w64 ((w64 ((w64 ((w64 ((w64 ((w64 ((w64 ((w64 (v62 + (1 : Int))) + (1 : Int))) + (1 : Int))) + (1 : Int))) + (1 : Int))) + (1 : Int))) + (1 : Int))) + (1 : Int))), (w64 (v63 + (1 : Int)))), h, Nat.lt_succ_self m85, (weak_ofP [0] (l := [(0, .row 0 (((((((((v61.set v63.toNat (SBus.mk v62 x88.Own x88.Shared x88.Kind x88.Load x88.Customers)).set v63.toNat (SBus.mk x91.Parent (Cx.mk x89 x90) x91.Shared x91.Kind x91.Load x91.Customers)).set v63.toNat (SBus.mk x94.Parent x94.Own (Cx.mk x92 x93) x94.Kind x94.Load x94.Customers)).set v63.toNat (SBus.mk x95.Parent x95.Own x95.Shared (w64 ((w64 ((w64 (v62 + (1 : Int))) + (1 : Int))) + (1 : Int))) x95.Load x95.Customers)).set v63.toNat (SBus.mk x98.Parent x98.Own x98.Shared x98.Kind (SPhases.mk (Cx.mk x96 x97) x98.Load.B x98.Load.C) x98.Customers)).set v63.toNat (SBus.mk x101.Parent x101.Own x101.Shared x101.Kind (SPhases.mk x101.Load.A (Cx.mk x99 x100) x101.Load.C) x101.Customers)).set v63.toNat (SBus.mk x104.Parent x104.Own x104.Shared x104.Kind (SPhases.mk x104.Load.A x104.Load.B (Cx.mk x102 x103)) x104.Customers)).set v63.toNat (SBus.mk x105.Parent x105.Own x105.Shared x105.Kind x105.Load (w64 ((w64 ((w64 ((w64 ((w64 ((w64 ((w64 (v62 + (1 : Int))) + (1 : Int))) + (1 : Int))) + (1 : Int))) + (1 : Int))) + (1 : Int))) + (1 : Int))))).length) 0 (((((((((v61.set v63.toNat (SBus.mk v62 x88.Own x88.Shared x88.Kind x88.Load x88.Customers)).set v63.toNat (SBus.mk x91.Parent (Cx.mk x89 x90) x91.Shared x91.Kind x91.Load x91.Customers)).set v63.toNat (SBus.mk x94.Parent x94.Own (Cx.mk x92 x93) x94.Kind x94.Load x94.Customers)).set v63.toNat (SBus.mk x95.Parent x95.Own x95.Shared (w64 ((w64 ((w64 (v62 + (1 : Int))) + (1 : Int))) + (1 : Int))) x95.Load x95.Customers)).set v63.toNat (SBus.mk x98.Parent x98.Own x98.Shared x98.Kind (SPhases.mk (Cx.mk x96 x97) x98.Load.B x98.Load.C) x98.Customers)).set v63.toNat (SBus.mk x101.Parent x101.Own x101.Shared x101.Kind (SPhases.mk x101.Load.A (Cx.mk x99 x100) x101.Load.C) x101.Customers)).set v63.toNat (SBus.mk x104.Parent x104.Own x104.Shared x104.Kind (SPhases.mk x104.Load.A x104.Load.B (Cx.mk x102 x103)) x104.Customers)).set v63.toNat (SBus.mk x105.Parent x105.Own x105.Shared x105.Kind x105.Load (w64 ((w64 ((w64 ((w64 ((w64 ((w64 ((w64 (v62 + (1 : Int))) + (1 : Int))) + (1 : Int))) + (1 : Int))) + (1 : Int))) + (1 : Int))) + (1 : Int))))).length)), (1, .d (.int .i64 (w64 ((w64 ((w64 ((w64 ((w64 ((w64 ((w64 ((w64 (v62 + (1 : Int))) + (1 : Int))) + (1 : Int))) + (1 : Int))) + (1 : Int))) + (1 : Int))) + (1 : Int))) + (1 : Int))))), (5, .d (.int .i64 (w64 (v63 + (1 : Int)))))]) (objs := [.row 8 (((((((((v61.set v63.toNat (SBus.mk v62 x88.Own x88.Shared x88.Kind x88.Load x88.Customers)).set v63.toNat (SBus.mk x91.Parent (Cx.mk x89 x90) x91.Shared x91.Kind x91.Load x91.Customers)).set v63.toNat (SBus.mk x94.Parent x94.Own (Cx.mk x92 x93) x94.Kind x94.Load x94.Customers)).set v63.toNat (SBus.mk x95.Parent x95.Own x95.Shared (w64 ((w64 ((w64 (v62 + (1 : Int))) + (1 : Int))) + (1 : Int))) x95.Load x95.Customers)).set v63.toNat (SBus.mk x98.Parent x98.Own x98.Shared x98.Kind (SPhases.mk (Cx.mk x96 x97) x98.Load.B x98.Load.C) x98.Customers)).set v63.toNat (SBus.mk x101.Parent x101.Own x101.Shared x101.Kind (SPhases.mk x101.Load.A (Cx.mk x99 x100) x101.Load.C) x101.Customers)).set v63.toNat (SBus.mk x104.Parent x104.Own x104.Shared x104.Kind (SPhases.mk x104.Load.A x104.Load.B (Cx.mk x102 x103)) x104.Customers)).set v63.toNat (SBus.mk x105.Parent x105.Own x105.Shared x105.Kind x105.Load (w64 ((w64 ((w64 ((w64 ((w64 ((w64 ((w64 (v62 + (1 : Int))) + (1 : Int))) + (1 : Int))) + (1 : Int))) + (1 : Int))) + (1 : Int))) + (1 : Int))))).map eSBus)]) rfl (by simp) rfl (by repeat' first | exact trivial | refine ⟨?_, ?_⟩) ⟨rfl, trivial, rfl, trivial, rfl, trivial, trivial⟩)⟩
  · have h := if_f h hc87
    refine aw_exit ?_
    refine aw_seq ?_
    refine aw_region ?_
    refine awl_val hτ rfl rfl rfl ?_
    refine awl_val hτ rfl rfl rfl ?_
    refine awl_nil ?_
    refine aw_weak (weak_ofP [0] (l := [(4, .d (.int .i64 v62))]) (objs := [.row 8 (v61.map eSBus)]) rfl (by simp) rfl (by repeat' first | exact trivial | refine ⟨?_, ?_⟩) ⟨rfl, trivial, trivial⟩) ?_
    refine aw_ret ?_
    have hr := Option.some.inj h
    subst hr
    exact ret_objs (.inr rfl) [] (objs' := [.row 8 (v61.map eSBus)]) (new := []) rfl (by simp) (by simp) rfl (by repeat' first | exact trivial | refine ⟨?_, ?_⟩) rfl rfl (by repeat' first | exact trivial | refine ⟨?_, ?_⟩) (fun _ => ⟨by simp [V.flat, V.flatA, V.flatC, D.flat], (flat_cons (flat_row eSBus_flat _) flat_nil)⟩) ⟨rfl, rfl, rfl⟩
theorem laws_markBusS_ok (n : Nat) (a_ : List SBus) (k_ : Int) {r : Int × List SBus} (h : m_laws_markBusS n a_ k_ = some r) : ACall prog false 88 [.row 0 a_.length 0 a_.length, .d (.int .i64 k_)] [.row 8 (a_.map eSBus)] (fun v o new => v = .d (.int .i64 r.1) ∧ o = [.row 8 (r.2.map eSBus)] ∧ new = []) := laws_markBusS_ok_fr0 false n a_ k_ h
theorem laws_markBusS_ok_fr (n : Nat) (a_ : List SBus) (k_ : Int) {r : Int × List SBus} (h : m_laws_markBusS n a_ k_ = some r) : ACall prog true 88 [.row 0 a_.length 0 a_.length, .d (.int .i64 k_)] [.row 8 (a_.map eSBus)] (fun v o new => v = .d (.int .i64 r.1) ∧ o = [.row 8 (r.2.map eSBus)] ∧ new = []) := laws_markBusS_ok_fr0 true n a_ k_ h

def m_laws_markFeeder (n : Nat) (a_ : SFeeder) (k_ : Int) : Option (Int × List SBus) :=
  (m_laws_markBusS n a_.Buses k_).bind fun x3 =>
  grd (x3.2.length = a_.Buses.length) <|
  some (x3.1, x3.2)
theorem laws_markFeeder_ok_fr0 (fr : Bool) (n : Nat) (a_ : SFeeder) (k_ : Int) {r : Int × List SBus} (h : m_laws_markFeeder n a_ k_ = some r) : ACall prog fr 37 [.agg [.d (.cx .f32 a_.Source.A.re a_.Source.A.im), .d (.cx .f32 a_.Source.B.re a_.Source.B.im), .d (.cx .f32 a_.Source.C.re a_.Source.C.im), .row 0 a_.Buses.length 0 a_.Buses.length], .d (.int .i64 k_)] [.row 8 (a_.Buses.map eSBus)] (fun v o new => v = .d (.int .i64 r.1) ∧ o = [.row 8 (r.2.map eSBus)] ∧ new = []) := by
  refine acall_of_aw hτ func37 rfl (by simp) (by simp) ?_
  unfold m_laws_markFeeder at h
  refine aw_seq ?_
  refine aw_region ?_
  refine awl_valH hτ rfl rfl rfl ?_
  refine awl_val hτ rfl rfl rfl ?_
  refine awl_nil ?_
  refine aw_seq ?_
  refine aw_region ?_
  refine awl_val hτ rfl rfl rfl ?_
  refine awl_val hτ rfl rfl rfl ?_
  refine awl_val hτ rfl rfl rfl ?_
  refine bnd_elim h fun x3 hx3 h => ?_
  refine awl_callP hτ false [0] rfl rfl rfl (enterOk func88 rfl rfl) rfl rfl (by simp) ⟨trivial, trivial, trivial⟩ (by repeat' first | exact trivial | refine ⟨?_, ?_⟩) (laws_markBusS_ok n a_.Buses k_ hx3) ?_
  rintro r0 o0 n0 ⟨rfl, rfl, rfl⟩ -
  refine grd_elim h fun hg4 h => ?_
  refine awl_val hτ rfl rfl rfl ?_
  refine awl_nil ?_
  refine aw_seq ?_
  refine aw_weak (weak_ofP [0] (l := [(1, .d (.int .i64 x3.1))]) (objs := [.row 8 (x3.2.map eSBus)]) rfl (by simp) rfl (by repeat' first | exact trivial | refine ⟨?_, ?_⟩) ⟨rfl, trivial, trivial⟩) ?_
  refine aw_region ?_
  refine awl_val hτ rfl rfl rfl ?_
  refine awl_val hτ rfl rfl rfl ?_
  refine awl_nil ?_
  refine aw_weak (weak_ofP [0] (l := [(4, .d (.int .i64 x3.1))]) (objs := [.row 8 (x3.2.map eSBus)]) rfl (by simp) rfl (by repeat' first | exact trivial | refine ⟨?_, ?_⟩) ⟨rfl, trivial, trivial⟩) ?_
  refine aw_ret ?_
  have hr := Option.some.inj h
  subst hr
  exact ret_objs (.inr rfl) [] (objs' := [.row 8 (x3.2.map eSBus)]) (new := []) rfl (by simp) (by simp) rfl (by repeat' first | exact trivial | refine ⟨?_, ?_⟩) rfl rfl (by repeat' first | exact trivial | refine ⟨?_, ?_⟩) (fun _ => ⟨by simp [V.flat, V.flatA, V.flatC, D.flat], (flat_cons (flat_row eSBus_flat _) flat_nil)⟩) ⟨rfl, rfl, rfl⟩
theorem laws_markFeeder_ok (n : Nat) (a_ : SFeeder) (k_ : Int) {r : Int × List SBus} (h : m_laws_markFeeder n a_ k_ = some r) : ACall prog false 37 [.agg [.d (.cx .f32 a_.Source.A.re a_.Source.A.im), .d (.cx .f32 a_.Source.B.re a_.Source.B.im), .d (.cx .f32 a_.Source.C.re a_.Source.C.im), .row 0 a_.Buses.length 0 a_.Buses.length], .d (.int .i64 k_)] [.row 8 (a_.Buses.map eSBus)] (fun v o new => v = .d (.int .i64 r.1) ∧ o = [.row 8 (r.2.map eSBus)] ∧ new = []) := laws_markFeeder_ok_fr0 false n a_ k_ h
theorem laws_markFeeder_ok_fr (n : Nat) (a_ : SFeeder) (k_ : Int) {r : Int × List SBus} (h : m_laws_markFeeder n a_ k_ = some r) : ACall prog true 37 [.agg [.d (.cx .f32 a_.Source.A.re a_.Source.A.im), .d (.cx .f32 a_.Source.B.re a_.Source.B.im), .d (.cx .f32 a_.Source.C.re a_.Source.C.im), .row 0 a_.Buses.length 0 a_.Buses.length], .d (.int .i64 k_)] [.row 8 (a_.Buses.map eSBus)] (fun v o new => v = .d (.int .i64 r.1) ∧ o = [.row 8 (r.2.map eSBus)] ∧ new = []) := laws_markFeeder_ok_fr0 true n a_ k_ h

def m_laws_markTieS_l1 (n : Nat) : Nat → List STie → Int → Int → Option (Int × List STie)
  | 0, _, _, _ => none
  | m49 + 1, v34, v35, v36 =>
    if v36 < (v34.length : Int) then
      (getI v34 v36).bind fun x52 =>
      (getI (v34.set v36.toNat (STie.mk v35 x52.B x52.Own x52.Shared x52.Most)) v36).bind fun x53 =>
      (fconv .f64 .f32 (FloatKind.nearest .f64 (w64 ((w64 (v35 + (1 : Int))) + (1 : Int))))).bind fun x54 =>
      (fconv .f64 .f32 (4607182418800017408 : Nat)).bind fun x55 =>
      (getI ((v34.set v36.toNat (STie.mk v35 x52.B x52.Own x52.Shared x52.Most)).set v36.toNat (STie.mk x53.A (w64 (v35 + (1 : Int))) x53.Own x53.Shared x53.Most)) v36).bind fun x56 =>
      (fconv .f64 .f32 (FloatKind.nearest .f64 (w64 ((w64 ((w64 (v35 + (1 : Int))) + (1 : Int))) + (1 : Int))))).bind fun x57 =>
      (fconv .f64 .f32 (4607182418800017408 : Nat)).bind fun x58 =>
      (getI (((v34.set v36.toNat (STie.mk v35 x52.B x52.Own x52.Shared x52.Most)).set v36.toNat (STie.mk x53.A (w64 (v35 + (1 : Int))) x53.Own x53.Shared x53.Most)).set v36.toNat (STie.mk x56.A x56.B (Cx.mk x54 x55) x56.Shared x56.Most)) v36).bind fun x59 =>
      (getI ((((v34.set v36.toNat (STie.mk v35 x52.B x52.Own x52.Shared x52.Most)).set v36.toNat (STie.mk x53.A (w64 (v35 + (1 : Int))) x53.Own x53.Shared x53.Most)).set v36.toNat (STie.mk x56.A x56.B (Cx.mk x54 x55) x56.Shared x56.Most)).set v36.toNat (STie.mk x59.A x59.B x59.Own (Cx.mk x57 x58) x59.Most)) v36).bind fun x60 =>
      (m_laws_markTieS_l1 n m49) (((((v34.set v36.toNat (STie.mk v35 x52.B x52.Own x52.Shared x52.Most)).set v36.toNat (STie.mk x53.A (w64 (v35 + (1 : Int))) x53.Own x53.Shared x53.Most)).set v36.toNat (STie.mk x56.A x56.B (Cx.mk x54 x55) x56.Shared x56.Most)).set v36.toNat (STie.mk x59.A x59.B x59.Own (Cx.mk x57 x58) x59.Most)).set v36.toNat (STie.mk x60.A x60.B x60.Own x60.Shared (w64 ((w64 ((w64 ((w64 (v35 + (1 : Int))) + (1 : Int))) + (1 : Int))) + (1 : Int))))) (w64 ((w64 ((w64 ((w64 ((w64 (v35 + (1 : Int))) + (1 : Int))) + (1 : Int))) + (1 : Int))) + (1 : Int))) (w64 (v36 + (1 : Int)))
    else
      some (v35, v34)
def m_laws_markTieS (n : Nat) (a_ : List STie) (k_ : Int) : Option (Int × List STie) :=
  m_laws_markTieS_l1 n n a_ k_ (0 : Int)
theorem laws_markTieS_ok_fr0 (fr : Bool) (n : Nat) (a_ : List STie) (k_ : Int) {r : Int × List STie} (h : m_laws_markTieS n a_ k_ = some r) : ACall prog fr 38 [.row 0 a_.length 0 a_.length, .d (.int .i64 k_)] [.row 5 (a_.map eSTie)] (fun v o new => v = .d (.int .i64 r.1) ∧ o = [.row 5 (r.2.map eSTie)] ∧ new = []) := by
  refine acall_of_aw hτ func38 rfl (by simp) (by simp) ?_
  unfold m_laws_markTieS at h
  refine aw_seq ?_
  refine aw_region ?_
  refine awl_val hτ rfl rfl rfl ?_
  refine awl_nil ?_
  refine aw_seq ?_
  refine aw_seq ?_
  refine aw_region ?_
  refine awl_val hτ rfl rfl rfl ?_
  refine awl_nil ?_
  refine aw_block ?_
  refine aw_loop (ι := Nat × List STie × Int × Int) (fun (m49, v34, v35, v36) => St.of [(0, .row 0 v34.length 0 v34.length), (1, .d (.int .i64 v35)), (5, .d (.int .i64 v36))] [.row 5 (v34.map eSTie)] f38.ntmps 1) (fun (m49, v34, v35, v36) => m_laws_markTieS_l1 n m49 v34 v35 v36 = some r) (fun x => x.1) (n, a_, k_, (0 : Int)) h (weak_ofP [0] (l := [(0, .row 0 a_.length 0 a_.length), (1, .d (.int .i64 k_)), (5, .d (.int .i64 (0 : Int)))]) (objs := [.row 5 (a_.map eSTie)]) rfl (by simp) rfl (by repeat' first | exact trivial | refine ⟨?_, ?_⟩) ⟨rfl, trivial, rfl, trivial, rfl, trivial, trivial⟩) ?_
  rintro ⟨m49, v34, v35, v36⟩ h
  replace h : m_laws_markTieS_l1 n m49 v34 v35 v36 = some r := h
  rcases m49 with _ | m49
  · rw [m_laws_markTieS_l1] at h; cases h
  rw [m_laws_markTieS_l1] at h
  refine aw_seq ?_
  refine aw_seq ?_
  refine aw_region ?_
  refine awl_val hτ rfl rfl rfl ?_
  refine awl_val hτ rfl rfl rfl ?_
  refine awl_need hτ rfl rfl rfl (len_map _) ?_
  refine awl_val hτ rfl rfl rfl ?_
  refine awl_nil ?_
  refine aw_cond rfl (fun hc51 => ?_) (fun hc51 => ?_)
  · have h := if_t h hc51
    refine aw_skip ?_
    refine aw_seq ?_
    refine aw_block ?_
    refine aw_seq ?_
    refine aw_region ?_
    refine awl_val hτ rfl rfl rfl ?_
    refine awl_val hτ rfl rfl rfl ?_
    refine awl_val hτ rfl rfl rfl ?_
    refine bnd_elim h fun x52 hx52 h => ?_
    refine awl_need hτ rfl rfl rfl (row_need hx52) ?_
    refine awl_need hτ rfl rfl rfl (len_map _) ?_
    refine awl_elemH hτ rfl rfl rfl (len_map _) (row_get hx52) (set_val (f := eSTie) (l := v34) (i := v36) (y := (STie.mk v35 x52.B x52.Own x52.Shared x52.Most)) rfl) ?_
    refine awl_nil ?_
    refine aw_seq ?_
    refine aw_weak (weak_ofP [0] (l := [(0, .row 0 ((v34.set v36.toNat (STie.mk v35 x52.B x52.Own x52.Shared x52.Most)).length) 0 ((v34.set v36.toNat (STie.mk v35 x52.B x52.Own x52.Shared x52.Most)).length)), (1, .d (.int .i64 v35)), (5, .d (.int .i64 v36))]) (objs := [.row 5 ((v34.set v36.toNat (STie.mk v35 x52.B x52.Own x52.Shared x52.Most)).map eSTie)]) rfl (by simp) rfl (by repeat' first | exact trivial | refine ⟨?_, ?_⟩) ⟨(exV_rowL rfl (by simp)), trivial, rfl, trivial, rfl, trivial, trivial⟩) ?_
    refine aw_region ?_
    refine awl_val hτ rfl rfl rfl ?_
    refine awl_val hτ rfl rfl rfl ?_
    refine awl_val hτ rfl rfl rfl ?_
    refine awl_nil ?_
    refine aw_seq ?_
    refine aw_region ?_
    refine awl_val hτ rfl rfl rfl ?_
    refine awl_val hτ rfl rfl rfl ?_
    refine awl_val hτ rfl rfl rfl ?_
    refine bnd_elim h fun x53 hx53 h => ?_
    refine awl_need hτ rfl rfl rfl (row_need hx53) ?_
    refine awl_need hτ rfl rfl rfl (len_map _) ?_
    refine awl_elemH hτ rfl rfl rfl (len_map _) (row_get hx53) (set_val (f := eSTie) (l := (v34.set v36.toNat (STie.mk v35 x52.B x52.Own x52.Shared x52.Most))) (i := v36) (y := (STie.mk x53.A (w64 (v35 + (1 : Int))) x53.Own x53.Shared x53.Most)) rfl) ?_
    refine awl_nil ?_
    refine aw_seq ?_
    refine aw_weak (weak_ofP [0] (l := [(0, .row 0 (((v34.set v36.toNat (STie.mk v35 x52.B x52.Own x52.Shared x52.Most)).set v36.toNat (STie.mk x53.A (w64 (v35 + (1 : Int))) x53.Own x53.Shared x53.Most)).length) 0 (((v34.set v36.toNat (STie.mk v35 x52.B x52.Own x52.Shared x52.Most)).set v36.toNat (STie.mk x53.A (w64 (v35 + (1 : Int))) x53.Own x53.Shared x53.Most)).length)), (1, .d (.int .i64 (w64 (v35 + (1 : Int))))), (5, .d (.int .i64 v36))]) (objs := [.row 5 (((v34.set v36.toNat (STie.mk v35 x52.B x52.Own x52.Shared x52.Most)).set v36.toNat (STie.mk x53.A (w64 (v35 + (1 : Int))) x53.Own x53.Shared x53.Most)).map eSTie)]) rfl (by simp) rfl (by repeat' first | exact trivial | refine ⟨?_, ?_⟩) ⟨(exV_rowL rfl (by simp)), trivial, rfl, trivial, rfl, trivial, trivial⟩) ?_
    refine aw_region ?_
    refine awl_val hτ rfl rfl rfl ?_
    refine awl_val hτ rfl rfl rfl ?_
    refine awl_val hτ rfl rfl rfl ?_
    refine awl_nil ?_
    refine aw_seq ?_
    refine aw_region ?_
    refine awl_val hτ rfl rfl rfl ?_
    refine awl_val hτ rfl rfl rfl ?_
    refine awl_val hτ rfl rfl rfl ?_
    refine awl_val hτ rfl rfl rfl ?_
    refine awl_val hτ rfl rfl rfl ?_
    refine bnd_elim h fun x54 hx54 h => ?_
    refine bnd_elim h fun x55 hx55 h => ?_
    refine awl_x rfl rfl (x_c2c hτ rfl rfl rfl rfl rfl rfl hx54 hx55) ?_
    refine bnd_elim h fun x56 hx56 h => ?_
    refine awl_need hτ rfl rfl rfl (row_need hx56) ?_
    refine awl_need hτ rfl rfl rfl (len_map _) ?_
    refine awl_elemH hτ rfl rfl rfl (len_map _) (row_get hx56) (set_val (f := eSTie) (l := ((v34.set v36.toNat (STie.mk v35 x52.B x52.Own x52.Shared x52.Most)).set v36.toNat (STie.mk x53.A (w64 (v35 + (1 : Int))) x53.Own x53.Shared x53.Most))) (i := v36) (y := (STie.mk x56.A x56.B (Cx.mk x54 x55) x56.Shared x56.Most)) rfl) ?_
    refine awl_nil ?_
    refine aw_seq ?_
    refine aw_weak (weak_ofP [0] (l := [(0, .row 0 ((((v34.set v36.toNat (STie.mk v35 x52.B x52.Own x52.Shared x52.Most)).set v36.toNat (STie.mk x53.A (w64 (v35 + (1 : Int))) x53.Own x53.Shared x53.Most)).set v36.toNat (STie.mk x56.A x56.B (Cx.mk x54 x55) x56.Shared x56.Most)).length) 0 ((((v34.set v36.toNat (STie.mk v35 x52.B x52.Own x52.Shared x52.Most)).set v36.toNat (STie.mk x53.A (w64 (v35 + (1 : Int))) x53.Own x53.Shared x53.Most)).set v36.toNat (STie.mk x56.A x56.B (Cx.mk x54 x55) x56.Shared x56.Most)).length)), (1, .d (.int .i64 (w64 ((w64 (v35 + (1 : Int))) + (1 : Int))))), (5, .d (.int .i64 v36))]) (objs := [.row 5 ((((v34.set v36.toNat (STie.mk v35 x52.B x52.Own x52.Shared x52.Most)).set v36.toNat (STie.mk x53.A (w64 (v35 + (1 : Int))) x53.Own x53.Shared x53.Most)).set v36.toNat (STie.mk x56.A x56.B (Cx.mk x54 x55) x56.Shared x56.Most)).map eSTie)]) rfl (by simp) rfl (by repeat' first | exact trivial | refine ⟨?_, ?_⟩) ⟨(exV_rowL rfl (by simp)), trivial, rfl, trivial, rfl, trivial, trivial⟩) ?_
    refine aw_region ?_
    refine awl_val hτ rfl rfl rfl ?_
    refine awl_val hτ rfl rfl rfl ?_
    refine awl_val hτ rfl rfl rfl ?_
    refine awl_nil ?_
    refine aw_seq ?_
    refine aw_region ?_
    refine awl_val hτ rfl rfl rfl ?_
    refine awl_val hτ rfl rfl rfl ?_
    refine awl_val hτ rfl rfl rfl ?_
    refine awl_val hτ rfl rfl rfl ?_
    refine awl_val hτ rfl rfl rfl ?_
    refine bnd_elim h fun x57 hx57 h => ?_
    refine bnd_elim h fun x58 hx58 h => ?_
    refine awl_x rfl rfl (x_c2c hτ rfl rfl rfl rfl rfl rfl hx57 hx58) ?_
    refine bnd_elim h fun x59 hx59 h => ?_
    refine awl_need hτ rfl rfl rfl (row_need hx59) ?_
    refine awl_need hτ rfl rfl rfl (len_map _) ?_
    refine awl_elemH hτ rfl rfl rfl (len_map _) (row_get hx59) (set_val (f := eSTie) (l := (((v34.set v36.toNat (STie.mk v35 x52.B x52.Own x52.Shared x52.Most)).set v36.toNat (STie.mk x53.A (w64 (v35 + (1 : Int))) x53.Own x53.Shared x53.Most)).set v36.toNat (STie.mk x56.A x56.B (Cx.mk x54 x55) x56.Shared x56.Most))) (i := v36) (y := (STie.mk x59.A x59.B x59.Own (Cx.mk x57 x58) x59.Most)) rfl) ?_
    refine awl_nil ?_
    refine aw_seq ?_
    refine aw_weak (weak_ofP [0] (l := [(0, .row 0 (((((v34.set v36.toNat (STie.mk v35 x52.B x52.Own x52.Shared x52.Most)).set v36.toNat (STie.mk x53.A (w64 (v35 + (1 : Int))) x53.Own x53.Shared x53.Most)).set v36.toNat (STie.mk x56.A x56.B (Cx.mk x54 x55) x56.Shared x56.Most)).set v36.toNat (STie.mk x59.A x59.B x59.Own (Cx.mk x57 x58) x59.Most)).length) 0 (((((v34.set v36.toNat (STie.mk v35 x52.B x52.Own x52.Shared x52.Most)).set v36.toNat (STie.mk x53.A (w64 (v35 + (1 : Int))) x53.Own x53.Shared x53.Most)).set v36.toNat (STie.mk x56.A x56.B (Cx.mk x54 x55) x56.Shared x56.Most)).set v36.toNat (STie.mk x59.A x59.B x59.Own (Cx.mk x57 x58) x59.Most)).length)), (1, .d (.int .i64 (w64 ((w64 ((w64 (v35 + (1 : Int))) + (1 : Int))) + (1 : Int))))), (5, .d (.int .i64 v36))]) (objs := [.row 5 (((((v34.set v36.toNat (STie.mk v35 x52.B x52.Own x52.Shared x52.Most)).set v36.toNat (STie.mk x53.A (w64 (v35 + (1 : Int))) x53.Own x53.Shared x53.Most)).set v36.toNat (STie.mk x56.A x56.B (Cx.mk x54 x55) x56.Shared x56.Most)).set v36.toNat (STie.mk x59.A x59.B x59.Own (Cx.mk x57 x58) x59.Most)).map eSTie)]) rfl (by simp) rfl (by repeat' first | exact trivial | refine ⟨?_, ?_⟩) ⟨(exV_rowL rfl (by simp)), trivial, rfl, trivial, rfl, trivial, trivial⟩) ?_
    refine aw_region ?_
    refine awl_val hτ rfl rfl rfl ?_
    refine awl_val hτ rfl rfl rfl ?_
    refine awl_val hτ rfl rfl rfl ?_
    refine awl_nil ?_
    refine aw_seq ?_
    refine aw_region ?_
    refine awl_val hτ rfl rfl rfl ?_
    refine awl_val hτ rfl rfl rfl ?_
    refine awl_val hτ rfl rfl rfl ?_
    refine bnd_elim h fun x60 hx60 h => ?_
    refine awl_need hτ rfl rfl rfl (row_need hx60) ?_
    refine awl_need hτ rfl rfl rfl (len_map _) ?_
    refine awl_elemH hτ rfl rfl rfl (len_map _) (row_get hx60) (set_val (f := eSTie) (l := ((((v34.set v36.toNat (STie.mk v35 x52.B x52.Own x52.Shared x52.Most)).set v36.toNat (STie.mk x53.A (w64 (v35 + (1 : Int))) x53.Own x53.Shared x53.Most)).set v36.toNat (STie.mk x56.A x56.B (Cx.mk x54 x55) x56.Shared x56.Most)).set v36.toNat (STie.mk x59.A x59.B x59.Own (Cx.mk x57 x58) x59.Most))) (i := v36) (y := (STie.mk x60.A x60.B x60.Own x60.Shared (w64 ((w64 ((w64 ((w64 (v35 + (1 : Int))) + (1 : Int))) + (1 : Int))) + (1 : Int))))) rfl) ?_
    refine awl_nil ?_
    refine aw_weak (weak_ofP [0] (l := [(0, .row 0 ((((((v34.set v36.toNat (STie.mk v35 x52.B x52.Own x52.Shared x52.Most)).set v36.toNat (STie.mk x53.A (w64 (v35 + (1 : Int))) x53.Own x53.Shared x53.Most)).set v36.toNat (STie.mk x56.A x56.B (Cx.mk x54 x55) x56.Shared x56.Most)).set v36.toNat (STie.mk x59.A x59.B x59.Own (Cx.mk x57 x58) x59.Most)).set v36.toNat (STie.mk x60.A x60.B x60.Own x60.Shared (w64 ((w64 ((w64 ((w64 (v35 + (1 : Int))) + (1 : Int))) + (1 : Int))) + (1 : Int))))).length) 0 ((((((v34.set v36.toNat (STie.mk v35 x52.B x52.Own x52.Shared x52.Most)).set v36.toNat (STie.mk x53.A (w64 (v35 + (1 : Int))) x53.Own x53.Shared x53.Most)).set v36.toNat (STie.mk x56.A x56.B (Cx.mk x54 x55) x56.Shared x56.Most)).set v36.toNat (STie.mk x59.A x59.B x59.Own (Cx.mk x57 x58) x59.Most)).set v36.toNat (STie.mk x60.A x60.B x60.Own x60.Shared (w64 ((w64 ((w64 ((w64 (v35 + (1 : Int))) + (1 : Int))) + (1 : Int))) + (1 : Int))))).length)), (1, .d (.int .i64 (w64 ((w64 ((w64 ((w64 (v35 + (1 : Int))) + (1 : Int))) + (1 : Int))) + (1 : Int))))), (5, .d (.int .i64 v36))]) (objs := [.row 5 ((((((v34.set v36.toNat (STie.mk v35 x52.B x52.Own x52.Shared x52.Most)).set v36.toNat (STie.mk x53.A (w64 (v35 + (1 : Int))) x53.Own x53.Shared x53.Most)).set v36.toNat (STie.mk x56.A x56.B (Cx.mk x54 x55) x56.Shared x56.Most)).set v36.toNat (STie.mk x59.A x59.B x59.Own (Cx.mk x57 x58) x59.Most)).set v36.toNat (STie.mk x60.A x60.B x60.Own x60.Shared (w64 ((w64 ((w64 ((w64 (v35 + (1 : Int))) + (1 : Int))) + (1 : Int))) + (1 : Int))))).map eSTie)]) rfl (by simp) rfl (by repeat' first | exact trivial | refine ⟨?_, ?_⟩) ⟨(exV_rowL rfl (by simp)), trivial, rfl, trivial, rfl, trivial, trivial⟩) ?_
    refine aw_region ?_
    refine awl_val hτ rfl rfl rfl ?_
    refine awl_val hτ rfl rfl rfl ?_
    refine awl_val hτ rfl rfl rfl ?_
    refine awl_nil ?_
    refine aw_region ?_
    refine awl_val hτ rfl rfl rfl ?_
    refine awl_val hτ rfl rfl rfl ?_
    refine awl_val hτ rfl rfl rfl ?_
    refine awl_nil ?_
    exact ⟨(m49, (((((v34.set v36.toNat (STie.mk v35 x52.B x52.Own x52.Shared x52.Most)).set v36.toNat (STie.mk x53.A (w64 (v35 + (1 : Int))) x53.Own x53.Shared x53.Most)).set v36.toNat (STie.mk x56.A x56.B (Cx.mk x54 x55) x56.Shared x56.Most)).set v36.toNat (STie.mk x59.A x59.B x59.Own (Cx.mk x57 x58) x59.Most)).set v36.toNat (STie.mk x60.A x60.B x60.Own x60.Shared (w64 ((w64 ((w64 ((w64 (v35 + (1 : Int))) + (1 : Int))) + (1 : Int))) + (1 : Int))))), (w64 ((w64 ((w64 ((w64 ((w64 (v35 + (1 : Int))) + (1 : Int))) + (1 : Int))) + (1 : Int))) + (1 : Int))), (w64 (v36 + (1 : Int)))), h, Nat.lt_succ_self m49, (weak_ofP [0] (l := [(0, .row 0 ((((((v34.set v36.toNat (STie.mk v35 x52.B x52.Own x52.Shared x52.Most)).set v36.toNat (STie.mk x53.A (w64 (v35 + (1 : Int))) x53.Own x53.Shared x53.Most)).set v36.toNat (STie.mk x56.A x56.B (Cx.mk x54 x55) x56.Shared x56.Most)).set v36.toNat (STie.mk x59.A x59.B x59.Own (Cx.mk x57 x58) x59.Most)).set v36.toNat (STie.mk x60.A x60.B x60.Own x60.Shared (w64 ((w64 ((w64 ((w64 (v35 + (1 : Int))) + (1 : Int))) + (1 : Int))) + (1 : Int))))).length) 0 ((((((v34.set v36.toNat (STie.mk v35 x52.B x52.Own x52.Shared x52.Most)).set v36.toNat (STie.mk x53.A (w64 (v35 + (1 : Int))) x53.Own x53.Shared x53.Most)).set v36.toNat (STie.mk x56.A x56.B (Cx.mk x54 x55) x56.Shared x56.Most)).set v36.toNat (STie.mk x59.A x59.B x59.Own (Cx.mk x57 x58) x59.Most)).set v36.toNat (STie.mk x60.A x60.B x60.Own x60.Shared (w64 ((w64 ((w64 ((w64 (v35 + (1 : Int))) + (1 : Int))) + (1 : Int))) + (1 : Int))))).length)), (1, .d (.int .i64 (w64 ((w64 ((w64 ((w64 ((w64 (v35 + (1 : Int))) + (1 : Int))) + (1 : Int))) + (1 : Int))) + (1 : Int))))), (5, .d (.int .i64 (w64 (v36 + (1 : Int)))))]) (objs := [.row 5 ((((((v34.set v36.toNat (STie.mk v35 x52.B x52.Own x52.Shared x52.Most)).set v36.toNat (STie.mk x53.A (w64 (v35 + (1 : Int))) x53.Own x53.Shared x53.Most)).set v36.toNat (STie.mk x56.A x56.B (Cx.mk x54 x55) x56.Shared x56.Most)).set v36.toNat (STie.mk x59.A x59.B x59.Own (Cx.mk x57 x58) x59.Most)).set v36.toNat (STie.mk x60.A x60.B x60.Own x60.Shared (w64 ((w64 ((w64 ((w64 (v35 + (1 : Int))) + (1 : Int))) + (1 : Int))) + (1 : Int))))).map eSTie)]) rfl (by simp) rfl (by repeat' first | exact trivial | refine ⟨?_, ?_⟩) ⟨rfl, trivial, rfl, trivial, rfl, trivial, trivial⟩)⟩
  · have h := if_f h hc51
    refine aw_exit ?_
    refine aw_seq ?_
    refine aw_region ?_
    refine awl_val hτ rfl rfl rfl ?_
    refine awl_val hτ rfl rfl rfl ?_
    refine awl_nil ?_
    refine aw_weak (weak_ofP [0] (l := [(4, .d (.int .i64 v35))]) (objs := [.row 5 (v34.map eSTie)]) rfl (by simp) rfl (by repeat' first | exact trivial | refine ⟨?_, ?_⟩) ⟨rfl, trivial, trivial⟩) ?_
    refine aw_ret ?_
    have hr := Option.some.inj h
    subst hr
    exact ret_objs (.inr rfl) [] (objs' := [.row 5 (v34.map eSTie)]) (new := []) rfl (by simp) (by simp) rfl (by repeat' first | exact trivial | refine ⟨?_, ?_⟩) rfl rfl (by repeat' first | exact trivial | refine ⟨?_, ?_⟩) (fun _ => ⟨by simp [V.flat, V.flatA, V.flatC, D.flat], (flat_cons (flat_row eSTie_flat _) flat_nil)⟩) ⟨rfl, rfl, rfl⟩
theorem laws_markTieS_ok (n : Nat) (a_ : List STie) (k_ : Int) {r : Int × List STie} (h : m_laws_markTieS n a_ k_ = some r) : ACall prog false 38 [.row 0 a_.length 0 a_.length, .d (.int .i64 k_)] [.row 5 (a_.map eSTie)] (fun v o new => v = .d (.int .i64 r.1) ∧ o = [.row 5 (r.2.map eSTie)] ∧ new = []) := laws_markTieS_ok_fr0 false n a_ k_ h
theorem laws_markTieS_ok_fr (n : Nat) (a_ : List STie) (k_ : Int) {r : Int × List STie} (h : m_laws_markTieS n a_ k_ = some r) : ACall prog true 38 [.row 0 a_.length 0 a_.length, .d (.int .i64 k_)] [.row 5 (a_.map eSTie)] (fun v o new => v = .d (.int .i64 r.1) ∧ o = [.row 5 (r.2.map eSTie)] ∧ new = []) := laws_markTieS_ok_fr0 true n a_ k_ h

def m_laws_markGrid (n : Nat) (a_ : SGrid) (k_ : Int) : Option (Int × List SBus × List STie) :=
  (m_laws_markFeeder n (SFeeder.mk a_.Feeder.Source a_.Feeder.Buses) k_).bind fun x5 =>
  grd (x5.2.length = a_.Feeder.Buses.length) <|
  (m_laws_markTieS n a_.Ties x5.1).bind fun x7 =>
  grd (x7.2.length = a_.Ties.length) <|
  some (x7.1, x5.2, x7.2)
theorem laws_markGrid_ok_fr0 (fr : Bool) (n : Nat) (a_ : SGrid) (k_ : Int) {r : Int × List SBus × List STie} (h : m_laws_markGrid n a_ k_ = some r) : ACall prog fr 10 [.agg [.d (.cx .f32 a_.Feeder.Source.A.re a_.Feeder.Source.A.im), .d (.cx .f32 a_.Feeder.Source.B.re a_.Feeder.Source.B.im), .d (.cx .f32 a_.Feeder.Source.C.re a_.Feeder.Source.C.im), .row 0 a_.Feeder.Buses.length 0 a_.Feeder.Buses.length, .row 1 a_.Ties.length 0 a_.Ties.length], .d (.int .i64 k_)] [.row 8 (a_.Feeder.Buses.map eSBus), .row 5 (a_.Ties.map eSTie)] (fun v o new => v = .d (.int .i64 r.1) ∧ o = [.row 8 (r.2.1.map eSBus), .row 5 (r.2.2.map eSTie)] ∧ new = []) := by
  refine acall_of_aw hτ func10 rfl (by simp) (by simp) ?_
  unfold m_laws_markGrid at h
  refine aw_seq ?_
  refine aw_region ?_
  refine awl_valH hτ rfl rfl rfl ?_
  refine awl_val hτ rfl rfl rfl ?_
  refine awl_nil ?_
  refine aw_seq ?_
  refine aw_region ?_
  refine awl_val hτ rfl rfl rfl ?_
  refine awl_val hτ rfl rfl rfl ?_
  refine awl_val hτ rfl rfl rfl ?_
  refine bnd_elim h fun x5 hx5 h => ?_
  refine awl_callP hτ false [0] rfl rfl rfl (enterOk func37 rfl rfl) rfl rfl (by simp) ⟨(by repeat' first | exact trivial | refine ⟨?_, ?_⟩), trivial, trivial⟩ (by repeat' first | exact trivial | refine ⟨?_, ?_⟩) (laws_markFeeder_ok n (SFeeder.mk a_.Feeder.Source a_.Feeder.Buses) k_ hx5) ?_
  rintro r0 o0 n0 ⟨rfl, rfl, rfl⟩ -
  refine grd_elim h fun hg6 h => ?_
  refine awl_val hτ rfl rfl rfl ?_
  refine awl_nil ?_
  refine aw_seq ?_
  refine aw_weak (weak_ofP [0, 1, 2] (l := [(1, .d (.int .i64 x5.1)), (2, .ptr 2 0)]) (objs := [.row 8 (x5.2.map eSBus), .row 5 (a_.Ties.map eSTie), .box [.d (.cx .f32 a_.Feeder.Source.A.re a_.Feeder.Source.A.im), .d (.cx .f32 a_.Feeder.Source.B.re a_.Feeder.Source.B.im), .d (.cx .f32 a_.Feeder.Source.C.re a_.Feeder.Source.C.im), .row 0 x5.2.length 0 x5.2.length, .row 1 a_.Ties.length 0 a_.Ties.length]]) rfl (by simp) (mapO_cons rfl (mapO_cons rfl (mapO_cons (exO_box (mapO_cons rfl (mapO_cons rfl (mapO_cons rfl (mapO_cons (exC_rowL rfl (by simp [hg6])) (mapO_cons rfl mapO_nil)))))) mapO_nil))) ⟨trivial, trivial, ⟨trivial, trivial, trivial, trivial, trivial⟩, trivial⟩ ⟨rfl, trivial, rfl, trivial, trivial⟩) ?_
  refine aw_region ?_
  refine awl_val hτ rfl rfl rfl ?_
  refine awl_val hτ rfl rfl rfl ?_
  refine awl_val hτ rfl rfl rfl ?_
  refine bnd_elim h fun x7 hx7 h => ?_
  refine awl_callP hτ false [1] rfl rfl rfl (enterOk func38 rfl rfl) rfl rfl (by simp) ⟨trivial, trivial, trivial⟩ (by repeat' first | exact trivial | refine ⟨?_, ?_⟩) (laws_markTieS_ok n a_.Ties x5.1 hx7) ?_
  rintro r0 o0 n0 ⟨rfl, rfl, rfl⟩ -
  refine grd_elim h fun hg8 h => ?_
  refine awl_val hτ rfl rfl rfl ?_
  refine awl_nil ?_
  refine aw_seq ?_
  refine aw_region ?_
  refine awl_val hτ rfl rfl rfl ?_
  refine awl_val hτ rfl rfl rfl ?_
  refine awl_nil ?_
  refine aw_weak (weak_ofP [0, 1] (l := [(4, .d (.int .i64 x7.1))]) (objs := [.row 8 (x5.2.map eSBus), .row 5 (x7.2.map eSTie)]) rfl (by simp) rfl (by repeat' first | exact trivial | refine ⟨?_, ?_⟩) ⟨rfl, trivial, trivial⟩) ?_
  refine aw_ret ?_
  have hr := Option.some.inj h
  subst hr
  exact ret_objs (.inr rfl) [] (objs' := [.row 8 (x5.2.map eSBus), .row 5 (x7.2.map eSTie)]) (new := []) rfl (by simp) (by simp) rfl (by repeat' first | exact trivial | refine ⟨?_, ?_⟩) rfl rfl (by repeat' first | exact trivial | refine ⟨?_, ?_⟩) (fun _ => ⟨by simp [V.flat, V.flatA, V.flatC, D.flat], (flat_cons (flat_row eSBus_flat _) (flat_cons (flat_row eSTie_flat _) flat_nil))⟩) ⟨rfl, rfl, rfl⟩
theorem laws_markGrid_ok (n : Nat) (a_ : SGrid) (k_ : Int) {r : Int × List SBus × List STie} (h : m_laws_markGrid n a_ k_ = some r) : ACall prog false 10 [.agg [.d (.cx .f32 a_.Feeder.Source.A.re a_.Feeder.Source.A.im), .d (.cx .f32 a_.Feeder.Source.B.re a_.Feeder.Source.B.im), .d (.cx .f32 a_.Feeder.Source.C.re a_.Feeder.Source.C.im), .row 0 a_.Feeder.Buses.length 0 a_.Feeder.Buses.length, .row 1 a_.Ties.length 0 a_.Ties.length], .d (.int .i64 k_)] [.row 8 (a_.Feeder.Buses.map eSBus), .row 5 (a_.Ties.map eSTie)] (fun v o new => v = .d (.int .i64 r.1) ∧ o = [.row 8 (r.2.1.map eSBus), .row 5 (r.2.2.map eSTie)] ∧ new = []) := laws_markGrid_ok_fr0 false n a_ k_ h
theorem laws_markGrid_ok_fr (n : Nat) (a_ : SGrid) (k_ : Int) {r : Int × List SBus × List STie} (h : m_laws_markGrid n a_ k_ = some r) : ACall prog true 10 [.agg [.d (.cx .f32 a_.Feeder.Source.A.re a_.Feeder.Source.A.im), .d (.cx .f32 a_.Feeder.Source.B.re a_.Feeder.Source.B.im), .d (.cx .f32 a_.Feeder.Source.C.re a_.Feeder.Source.C.im), .row 0 a_.Feeder.Buses.length 0 a_.Feeder.Buses.length, .row 1 a_.Ties.length 0 a_.Ties.length], .d (.int .i64 k_)] [.row 8 (a_.Feeder.Buses.map eSBus), .row 5 (a_.Ties.map eSTie)] (fun v o new => v = .d (.int .i64 r.1) ∧ o = [.row 8 (r.2.1.map eSBus), .row 5 (r.2.2.map eSTie)] ∧ new = []) := laws_markGrid_ok_fr0 true n a_ k_ h

def m_laws_heldBusS_l1 (n : Nat) (a_ : List SBus) : Nat → Int → Int → Option Int
  | 0, _, _ => none
  | m53 + 1, v38, v39 =>
    if v39 < (a_.length : Int) then
      (getI a_ v39).bind fun x68 =>
      if x68.Parent = v38 then
        (fconv .f64 .f32 (FloatKind.nearest .f64 (w64 (v38 + (1 : Int))))).bind fun x72 =>
        (fconv .f64 .f32 (4607182418800017408 : Nat)).bind fun x73 =>
        if (fcmp .eql .f32 x68.Own.re x72 && fcmp .eql .f32 x68.Own.im x73) = true then
          (fconv .f64 .f32 (FloatKind.nearest .f64 (w64 ((w64 (v38 + (1 : Int))) + (1 : Int))))).bind fun x77 =>
          (fconv .f64 .f32 (4607182418800017408 : Nat)).bind fun x78 =>
          if (fcmp .eql .f32 x68.Shared.re x77 && fcmp .eql .f32 x68.Shared.im x78) = true then
            if x68.Kind = (w64 ((w64 ((w64 (v38 + (1 : Int))) + (1 : Int))) + (1 : Int))) then
              (fconv .f64 .f32 (FloatKind.nearest .f64 (w64 ((w64 ((w64 ((w64 (v38 + (1 : Int))) + (1 : Int))) + (1 : Int))) + (1 : Int))))).bind fun x83 =>
              (fconv .f64 .f32 (4607182418800017408 : Nat)).bind fun x84 =>
              if (fcmp .eql .f32 x68.Load.A.re x83 && fcmp .eql .f32 x68.Load.A.im x84) = true then
                (fconv .f64 .f32 (FloatKind.nearest .f64 (w64 ((w64 ((w64 ((w64 ((w64 (v38 + (1 : Int))) + (1 : Int))) + (1 : Int))) + (1 : Int))) + (1 : Int))))).bind fun x88 =>
                (fconv .f64 .f32 (4607182418800017408 : Nat)).bind fun x89 =>
                if (fcmp .eql .f32 x68.Load.B.re x88 && fcmp .eql .f32 x68.Load.B.im x89) = true then
                  (fconv .f64 .f32 (FloatKind.nearest .f64 (w64 ((w64 ((w64 ((w64 ((w64 ((w64 (v38 + (1 : Int))) + (1 : Int))) + (1 : Int))) + (1 : Int))) + (1 : Int))) + (1 : Int))))).bind fun x93 =>
                  (fconv .f64 .f32 (4607182418800017408 : Nat)).bind fun x94 =>
                  if (fcmp .eql .f32 x68.Load.C.re x93 && fcmp .eql .f32 x68.Load.C.im x94) = true then
                    if x68.Customers = (w64 ((w64 ((w64 ((w64 ((w64 ((w64 ((w64 (v38 + (1 : Int))) + (1 : Int))) + (1 : Int))) + (1 : Int))) + (1 : Int))) + (1 : Int))) + (1 : Int))) then
                      (m_laws_heldBusS_l1 n a_ m53) (w64 ((w64 ((w64 ((w64 ((w64 ((w64 ((w64 ((w64 (v38 + (1 : Int))) + (1 : Int))) + (1 : Int))) + (1 : Int))) + (1 : Int))) + (1 : Int))) + (1 : Int))) + (1 : Int))) (w64 (v39 + (1 : Int)))
                    else
                      some (-1 : Int)
                  else
                    some (-1 : Int)
                else
                  some (-1 : Int)
              else
                some (-1 : Int)
            else
              some (-1 : Int)
          else
            some (-1 : Int)
        else
          some (-1 : Int)
      else
        some (-1 : Int)
    else
      some v38
def m_laws_heldBusS (n : Nat) (a_ : List SBus) (k_ : Int) : Option Int :=
  m_laws_heldBusS_l1 n a_ n k_ (0 : Int)
theorem laws_heldBusS_ok_fr0 (fr : Bool) (n : Nat) (a_ : List SBus) (k_ : Int) {r : Int} (h : m_laws_heldBusS n a_ k_ = some r) : ACall prog fr 89 [.d (.sl false (a_.map eSBus)), .d (.int .i64 k_)] [] (fun v o new => v = .d (.int .i64 r) ∧ o = [] ∧ new = []) := by
  refine acall_of_aw hτ func89 rfl (by simp) (by simp) ?_
  unfold m_laws_heldBusS at h
  refine aw_seq ?_
  refine aw_region ?_
  refine awl_val hτ rfl rfl rfl ?_
  refine awl_nil ?_
  refine aw_seq ?_
  refine aw_seq ?_
  refine aw_region ?_
  refine awl_val hτ rfl rfl rfl ?_
  refine awl_nil ?_
  refine aw_block ?_
  refine aw_loop (ι := Nat × Int × Int) (fun (m53, v38, v39) => St.of [(0, .d (.sl false (a_.map eSBus))), (1, .d (.int .i64 v38)), (5, .d (.int .i64 v39))] [] f89.ntmps 0) (fun (m53, v38, v39) => m_laws_heldBusS_l1 n a_ m53 v38 v39 = some r) (fun x => x.1) (n, k_, (0 : Int)) h (weak_ofP [] (l := [(0, .d (.sl false (a_.map eSBus))), (1, .d (.int .i64 k_)), (5, .d (.int .i64 (0 : Int)))]) (objs := []) rfl (by simp) rfl (by repeat' first | exact trivial | refine ⟨?_, ?_⟩) ⟨rfl, trivial, rfl, trivial, rfl, trivial, trivial⟩) ?_
  rintro ⟨m53, v38, v39⟩ h
  replace h : m_laws_heldBusS_l1 n a_ m53 v38 v39 = some r := h
  rcases m53 with _ | m53
  · rw [m_laws_heldBusS_l1] at h; cases h
  rw [m_laws_heldBusS_l1] at h
  refine aw_seq ?_
  refine aw_seq ?_
  refine aw_region ?_
  refine awl_val hτ rfl rfl rfl ?_
  refine awl_val hτ rfl rfl rfl ?_
  refine awl_val hτ (v := .d (.int .i64 (a_.length : Int))) rfl rfl (Eq.trans rfl (or_len (f := eSBus) a_)) ?_
  refine awl_val hτ rfl rfl rfl ?_
  refine awl_nil ?_
  refine aw_cond rfl (fun hc55 => ?_) (fun hc55 => ?_)
  · have h := if_t h hc55
    refine aw_skip ?_
    refine aw_seq ?_
    refine aw_block ?_
    refine aw_seq ?_
    refine aw_seq ?_
    refine aw_region ?_
    refine awl_val hτ rfl rfl rfl ?_
    refine awl_val hτ rfl rfl rfl ?_
    refine bnd_elim h fun x68 hx68 h => ?_
    refine awl_elem hτ rfl rfl rfl (getI_some hx68).1 (map_getI hx68) rfl ?_
    refine awl_val hτ rfl rfl rfl ?_
    refine awl_val hτ rfl rfl rfl ?_
    refine awl_val hτ rfl rfl rfl ?_
    refine awl_val hτ (v := .d (.bool (!(decide (x68.Parent = v38))))) rfl rfl (or_ine _ _) ?_
    refine awl_nil ?_
    refine aw_weak (weak_ofP [] (l := [(0, .d (.sl false (a_.map eSBus))), (1, .d (.int .i64 v38)), (5, .d (.int .i64 v39)), (18, .d (.bool (!(decide (x68.Parent = v38)))))]) (objs := []) rfl (by simp) rfl (by repeat' first | exact trivial | refine ⟨?_, ?_⟩) ⟨rfl, trivial, rfl, trivial, rfl, trivial, rfl, trivial, trivial⟩) ?_
    refine aw_cond rfl (fun hc69 => ?_) (fun hc69 => ?_)
    · have hc69 := not_t hc69
      have h := if_f h hc69
      refine aw_seq ?_
      refine aw_region ?_
      refine awl_val hτ rfl rfl rfl ?_
      refine awl_nil ?_
      refine aw_weak (weak_ofP [] (l := [(4, .d (.int .i64 (-1 : Int)))]) (objs := []) rfl (by simp) rfl (by repeat' first | exact trivial | refine ⟨?_, ?_⟩) ⟨rfl, trivial, trivial⟩) ?_
      refine aw_ret ?_
      have hr := Option.some.inj h
      subst hr
      exact ret_objs (.inr rfl) [] (objs' := []) (new := []) rfl (by simp) (by simp) rfl (by repeat' first | exact trivial | refine ⟨?_, ?_⟩) rfl rfl (by repeat' first | exact trivial | refine ⟨?_, ?_⟩) (fun _ => ⟨by simp [V.flat, V.flatA, V.flatC, D.flat], flat_nil⟩) ⟨rfl, rfl, rfl⟩
    · have hc69 := not_f hc69
      have h := if_t h hc69
      refine aw_skip ?_
      refine aw_seq ?_
      refine aw_region ?_
      refine awl_val hτ rfl rfl rfl ?_
      refine awl_val hτ rfl rfl rfl ?_
      refine awl_val hτ rfl rfl rfl ?_
      refine awl_nil ?_
      refine aw_seq ?_
      refine aw_seq ?_
      refine aw_region ?_
      refine awl_val hτ rfl rfl rfl ?_
      refine awl_val hτ rfl rfl rfl ?_
      refine awl_elem hτ rfl rfl rfl (getI_some hx68).1 (map_getI hx68) rfl ?_
      refine awl_val hτ rfl rfl rfl ?_
      refine awl_val hτ rfl rfl rfl ?_
      refine awl_val hτ rfl rfl rfl ?_
      refine awl_val hτ rfl rfl rfl ?_
      refine awl_val hτ rfl rfl rfl ?_
      refine bnd_elim h fun x72 hx72 h => ?_
      refine bnd_elim h fun x73 hx73 h => ?_
      refine awl_x rfl rfl (x_c2c hτ rfl rfl rfl rfl rfl rfl hx72 hx73) ?_
      refine awl_weak (weak_ofP [] (l := [(0, .d (.sl false (a_.map eSBus))), (1, .d (.int .i64 (w64 (v38 + (1 : Int))))), (5, .d (.int .i64 v39)), (25, .d (.cx .f32 x68.Own.re x68.Own.im)), (29, .d (.cx .f32 x72 x73))]) (objs := []) rfl (by simp) rfl (by repeat' first | exact trivial | refine ⟨?_, ?_⟩) ⟨rfl, trivial, rfl, trivial, rfl, trivial, rfl, trivial, rfl, trivial, trivial⟩) ?_
      refine awl_val hτ rfl rfl rfl ?_
      refine awl_nil ?_
      refine aw_cond rfl (fun hc74 => ?_) (fun hc74 => ?_)
      · have hc74 := not_t hc74
        have h := if_bf h hc74
        refine aw_seq ?_
        refine aw_region ?_
        refine awl_val hτ rfl rfl rfl ?_
        refine awl_nil ?_
        refine aw_weak (weak_ofP [] (l := [(4, .d (.int .i64 (-1 : Int)))]) (objs := []) rfl (by simp) rfl (by repeat' first | exact trivial | refine ⟨?_, ?_⟩) ⟨rfl, trivial, trivial⟩) ?_
        refine aw_ret ?_
        have hr := Option.some.inj h
        subst hr
        exact ret_objs (.inr rfl) [] (objs' := []) (new := []) rfl (by simp) (by simp) rfl (by repeat' first | exact trivial | refine ⟨?_, ?_⟩) rfl rfl (by repeat' first | exact trivial | refine ⟨?_, ?_⟩) (fun _ => ⟨by simp [V.flat, V.flatA, V.flatC, D.flat], flat_nil⟩) ⟨rfl, rfl, rfl⟩
      · have hc74 := not_f hc74
        have h := if_bt h hc74
        refine aw_skip ?_
        refine aw_seq ?_
        refine aw_region ?_
        refine awl_val hτ rfl rfl rfl ?_
        refine awl_val hτ rfl rfl rfl ?_
        refine awl_val hτ rfl rfl rfl ?_
        refine awl_nil ?_
        refine aw_seq ?_
        refine aw_seq ?_
        refine aw_region ?_
        refine awl_val hτ rfl rfl rfl ?_
        refine awl_val hτ rfl rfl rfl ?_
        refine awl_elem hτ rfl rfl rfl (getI_some hx68).1 (map_getI hx68) rfl ?_
        refine awl_val hτ rfl rfl rfl ?_
        refine awl_val hτ rfl rfl rfl ?_
        refine awl_val hτ rfl rfl rfl ?_
        refine awl_val hτ rfl rfl rfl ?_
        refine awl_val hτ rfl rfl rfl ?_
        refine awl_weak (weak_ofP [] (l := [(0, .d (.sl false (a_.map eSBus))), (1, .d (.int .i64 (w64 ((w64 (v38 + (1 : Int))) + (1 : Int))))), (5, .d (.int .i64 v39)), (37, .d (.cx .f32 x68.Shared.re x68.Shared.im)), (40, .d (.cx .f64 (FloatKind.nearest .f64 (w64 ((w64 (v38 + (1 : Int))) + (1 : Int)))) (4607182418800017408 : Nat)))]) (objs := []) rfl (by simp) rfl (by repeat' first | exact trivial | refine ⟨?_, ?_⟩) ⟨rfl, trivial, rfl, trivial, rfl, trivial, rfl, trivial, rfl, trivial, trivial⟩) ?_
        refine bnd_elim h fun x77 hx77 h => ?_
        refine bnd_elim h fun x78 hx78 h => ?_
        refine awl_x rfl rfl (x_c2c hτ rfl rfl rfl rfl rfl rfl hx77 hx78) ?_
        refine awl_val hτ rfl rfl rfl ?_
        refine awl_nil ?_
        refine aw_cond rfl (fun hc79 => ?_) (fun hc79 => ?_)
        · have hc79 := not_t hc79
          have h := if_bf h hc79
          refine aw_seq ?_
          refine aw_region ?_
          refine awl_val hτ rfl rfl rfl ?_
          refine awl_nil ?_
          refine aw_weak (weak_ofP [] (l := [(4, .d (.int .i64 (-1 : Int)))]) (objs := []) rfl (by simp) rfl (by repeat' first | exact trivial | refine ⟨?_, ?_⟩) ⟨rfl, trivial, trivial⟩) ?_
          refine aw_ret ?_
          have hr := Option.some.inj h
          subst hr
          exact ret_objs (.inr rfl) [] (objs' := []) (new := []) rfl (by simp) (by simp) rfl (by repeat' first | exact trivial | refine ⟨?_, ?_⟩) rfl rfl (by repeat' first | exact trivial | refine ⟨?_, ?_⟩) (fun _ => ⟨by simp [V.flat, V.flatA, V.flatC, D.flat], flat_nil⟩) ⟨rfl, rfl, rfl⟩
        · have hc79 := not_f hc79
          have h := if_bt h hc79
          refine aw_skip ?_
          refine aw_seq ?_
          refine aw_region ?_
          refine awl_val hτ rfl rfl rfl ?_
          refine awl_val hτ rfl rfl rfl ?_
          refine awl_val hτ rfl rfl rfl ?_
          refine awl_nil ?_
          refine aw_seq ?_
          refine aw_seq ?_
          refine aw_region ?_
          refine awl_val hτ rfl rfl rfl ?_
          refine awl_val hτ rfl rfl rfl ?_
          refine awl_elem hτ rfl rfl rfl (getI_some hx68).1 (map_getI hx68) rfl ?_
          refine awl_val hτ rfl rfl rfl ?_
          refine awl_val hτ rfl rfl rfl ?_
          refine awl_val hτ rfl rfl rfl ?_
          refine awl_val hτ (v := .d (.bool (!(decide (x68.Kind = (w64 ((w64 ((w64 (v38 + (1 : Int))) + (1 : Int))) + (1 : Int)))))))) rfl rfl (or_ine _ _) ?_
          refine awl_nil ?_
          refine aw_weak (weak_ofP [] (l := [(0, .d (.sl false (a_.map eSBus))), (1, .d (.int .i64 (w64 ((w64 ((w64 (v38 + (1 : Int))) + (1 : Int))) + (1 : Int))))), (5, .d (.int .i64 v39)), (51, .d (.bool (!(decide (x68.Kind = (w64 ((w64 ((w64 (v38 + (1 : Int))) + (1 : Int))) + (1 : Int))))))))]) (objs := []) rfl (by simp) rfl (by repeat' first | exact trivial | refine ⟨?_, ?_⟩) ⟨rfl, trivial, rfl, trivial, rfl, trivial, rfl, trivial, trivial⟩) ?_
          refine aw_cond rfl (fun hc80 => ?_) (fun hc80 => ?_)
          · have hc80 := not_t hc80
            have h := if_f h hc80
            refine aw_seq ?_
            refine aw_region ?_
            refine awl_val hτ rfl rfl rfl ?_
            refine awl_nil ?_
            refine aw_weak (weak_ofP [] (l := [(4, .d (.int .i64 (-1 : Int)))]) (objs := []) rfl (by simp) rfl (by repeat' first | exact trivial | refine ⟨?_, ?_⟩) ⟨rfl, trivial, trivial⟩) ?_
            refine aw_ret ?_
            have hr := Option.some.inj h
            subst hr
            exact ret_objs (.inr rfl) [] (objs' := []) (new := []) rfl (by simp) (by simp) rfl (by repeat' first | exact trivial | refine ⟨?_, ?_⟩) rfl rfl (by repeat' first | exact trivial | refine ⟨?_, ?_⟩) (fun _ => ⟨by simp [V.flat, V.flatA, V.flatC, D.flat], flat_nil⟩) ⟨rfl, rfl, rfl⟩
          · have hc80 := not_f hc80
            have h := if_t h hc80
            refine aw_skip ?_
            refine aw_seq ?_
            refine aw_region ?_
            refine awl_val hτ rfl rfl rfl ?_
            refine awl_val hτ rfl rfl rfl ?_
            refine awl_val hτ rfl rfl rfl ?_
            refine awl_nil ?_
            refine aw_seq ?_
            refine aw_seq ?_
            refine aw_region ?_
            refine awl_val hτ rfl rfl rfl ?_
            refine awl_val hτ rfl rfl rfl ?_
            refine awl_elem hτ rfl rfl rfl (getI_some hx68).1 (map_getI hx68) rfl ?_
            refine awl_val hτ rfl rfl rfl ?_
            refine awl_val hτ rfl rfl rfl ?_
            refine awl_val hτ rfl rfl rfl ?_
            refine awl_val hτ rfl rfl rfl ?_
            refine awl_val hτ rfl rfl rfl ?_
            refine awl_val hτ rfl rfl rfl ?_
            refine awl_weak (weak_ofP [] (l := [(0, .d (.sl false (a_.map eSBus))), (1, .d (.int .i64 (w64 ((w64 ((w64 ((w64 (v38 + (1 : Int))) + (1 : Int))) + (1 : Int))) + (1 : Int))))), (5, .d (.int .i64 v39)), (59, .d (.cx .f32 x68.Load.A.re x68.Load.A.im)), (62, .d (.cx .f64 (FloatKind.nearest .f64 (w64 ((w64 ((w64 ((w64 (v38 + (1 : Int))) + (1 : Int))) + (1 : Int))) + (1 : Int)))) (4607182418800017408 : Nat)))]) (objs := []) rfl (by simp) rfl (by repeat' first | exact trivial | refine ⟨?_, ?_⟩) ⟨rfl, trivial, rfl, trivial, rfl, trivial, rfl, trivial, rfl, trivial, trivial⟩) ?_
            refine bnd_elim h fun x83 hx83 h => ?_
            refine bnd_elim h fun x84 hx84 h => ?_
            refine awl_x rfl rfl (x_c2c hτ rfl rfl rfl rfl rfl rfl hx83 hx84) ?_
            refine awl_val hτ rfl rfl rfl ?_
            refine awl_nil ?_
            refine aw_cond rfl (fun hc85 => ?_) (fun hc85 => ?_)
            · have hc85 := not_t hc85
              have h := if_bf h hc85
              refine aw_seq ?_
              refine aw_region ?_
              refine awl_val hτ rfl rfl rfl ?_
              refine awl_nil ?_
              refine aw_weak (weak_ofP [] (l := [(4, .d (.int .i64 (-1 : Int)))]) (objs := []) rfl (by simp) rfl (by repeat' first | exact trivial | refine ⟨?_, ?_⟩) ⟨rfl, trivial, trivial⟩) ?_
              refine aw_ret ?_
              have hr := Option.some.inj h
              subst hr
              exact ret_objs (.inr rfl) [] (objs' := []) (new := []) rfl (by simp) (by simp) rfl (by repeat' first | exact trivial | refine ⟨?_, ?_⟩) rfl rfl (by repeat' first | exact trivial | refine ⟨?_, ?_⟩) (fun _ => ⟨by simp [V.flat, V.flatA, V.flatC, D.flat], flat_nil⟩) ⟨rfl, rfl, rfl⟩
            · have hc85 := not_f hc85
              have h := if_bt h hc85
              refine aw_skip ?_
              refine aw_seq ?_
              refine aw_region ?_
              refine awl_val hτ rfl rfl rfl ?_
              refine awl_val hτ rfl rfl rfl ?_
              refine awl_val hτ rfl rfl rfl ?_
              refine awl_nil ?_
              refine aw_seq ?_
              refine aw_seq ?_
              refine aw_region ?_
              refine awl_val hτ rfl rfl rfl ?_
              refine awl_val hτ rfl rfl rfl ?_
              refine awl_elem hτ rfl rfl rfl (getI_some hx68).1 (map_getI hx68) rfl ?_
              refine awl_val hτ rfl rfl rfl ?_
              refine awl_val hτ rfl rfl rfl ?_
              refine awl_val hτ rfl rfl rfl ?_
              refine awl_val hτ rfl rfl rfl ?_
              refine awl_weak (weak_ofP [] (l := [(0, .d (.sl false (a_.map eSBus))), (1, .d (.int .i64 (w64 ((w64 ((w64 ((w64 ((w64 (v38 + (1 : Int))) + (1 : Int))) + (1 : Int))) + (1 : Int))) + (1 : Int))))), (5, .d (.int .i64 v39)), (72, .d (.cx .f32 x68.Load.B.re x68.Load.B.im)), (73, .d (.int .i64 (w64 ((w64 ((w64 ((w64 ((w64 (v38 + (1 : Int))) + (1 : Int))) + (1 : Int))) + (1 : Int))) + (1 : Int)))))]) (objs := []) rfl (by simp) rfl (by repeat' first | exact trivial | refine ⟨?_, ?_⟩) ⟨rfl, trivial, rfl, trivial, rfl, trivial, rfl, trivial, rfl, trivial, trivial⟩) ?_
              refine awl_val hτ rfl rfl rfl ?_
              refine awl_val hτ rfl rfl rfl ?_
              refine bnd_elim h fun x88 hx88 h => ?_
              refine bnd_elim h fun x89 hx89 h => ?_
              refine awl_x rfl rfl (x_c2c hτ rfl rfl rfl rfl rfl rfl hx88 hx89) ?_
              refine awl_val hτ rfl rfl rfl ?_
              refine awl_nil ?_
              refine aw_cond rfl (fun hc90 => ?_) (fun hc90 => ?_)
              · have hc90 := not_t hc90
                have h := if_bf h hc90
                refine aw_seq ?_
                refine aw_region ?_
                refine awl_val hτ rfl rfl rfl ?_
                refine awl_nil ?_
                refine aw_weak (weak_ofP [] (l := [(4, .d (.int .i64 (-1 : Int)))]) (objs := []) rfl (by simp) rfl (by repeat' first | exact trivial | refine ⟨?_, ?_⟩) ⟨rfl, trivial, trivial⟩) ?_
                refine aw_ret ?_
                have hr := Option.some.inj h
                subst hr
                exact ret_objs (.inr rfl) [] (objs' := []) (new := []) rfl (by simp) (by simp) rfl (by repeat' first | exact trivial | refine ⟨?_, ?_⟩) rfl rfl (by repeat' first | exact trivial | refine ⟨?_, ?_⟩) (fun _ => ⟨by simp [V.flat, V.flatA, V.flatC, D.flat], flat_nil⟩) ⟨rfl, rfl, rfl⟩
              · have hc90 := not_f hc90
                have h := if_bt h hc90
                refine aw_skip ?_
                refine aw_seq ?_
                refine aw_region ?_
                refine awl_val hτ rfl rfl rfl ?_
                refine awl_val hτ rfl rfl rfl ?_
                refine awl_val hτ rfl rfl rfl ?_
                refine awl_nil ?_
                refine aw_seq ?_
                refine aw_seq ?_
                refine aw_weak (weak_ofP [] (l := [(0, .d (.sl false (a_.map eSBus))), (1, .d (.int .i64 (w64 ((w64 ((w64 ((w64 ((w64 ((w64 (v38 + (1 : Int))) + (1 : Int))) + (1 : Int))) + (1 : Int))) + (1 : Int))) + (1 : Int))))), (5, .d (.int .i64 v39))]) (objs := []) rfl (by simp) rfl (by repeat' first | exact trivial | refine ⟨?_, ?_⟩) ⟨rfl, trivial, rfl, trivial, rfl, trivial, trivial⟩) ?_
                refine aw_region ?_
                refine awl_val hτ rfl rfl rfl ?_
                refine awl_val hτ rfl rfl rfl ?_
                refine awl_elem hτ rfl rfl rfl (getI_some hx68).1 (map_getI hx68) rfl ?_
                refine awl_val hτ rfl rfl rfl ?_
                refine awl_val hτ rfl rfl rfl ?_
                refine awl_val hτ rfl rfl rfl ?_
                refine awl_val hτ rfl rfl rfl ?_
                refine awl_val hτ rfl rfl rfl ?_
                refine awl_val hτ rfl rfl rfl ?_
                refine bnd_elim h fun x93 hx93 h => ?_
                refine bnd_elim h fun x94 hx94 h => ?_
                refine awl_x rfl rfl (x_c2c hτ rfl rfl rfl rfl rfl rfl hx93 hx94) ?_
                refine awl_val hτ rfl rfl rfl ?_
                refine awl_nil ?_
                refine aw_weak (weak_ofP [] (l := [(0, .d (.sl false (a_.map eSBus))), (1, .d (.int .i64 (w64 ((w64 ((w64 ((w64 ((w64 ((w64 (v38 + (1 : Int))) + (1 : Int))) + (1 : Int))) + (1 : Int))) + (1 : Int))) + (1 : Int))))), (5, .d (.int .i64 v39)), (90, .d (.bool (!(fcmp .eql .f32 x68.Load.C.re x93 && fcmp .eql .f32 x68.Load.C.im x94))))]) (objs := []) rfl (by simp) rfl (by repeat' first | exact trivial | refine ⟨?_, ?_⟩) ⟨rfl, trivial, rfl, trivial, rfl, trivial, rfl, trivial, trivial⟩) ?_
                refine aw_cond rfl (fun hc95 => ?_) (fun hc95 => ?_)
                · have hc95 := not_t hc95
                  have h := if_bf h hc95
                  refine aw_seq ?_
                  refine aw_region ?_
                  refine awl_val hτ rfl rfl rfl ?_
                  refine awl_nil ?_
                  refine aw_weak (weak_ofP [] (l := [(4, .d (.int .i64 (-1 : Int)))]) (objs := []) rfl (by simp) rfl (by repeat' first | exact trivial | refine ⟨?_, ?_⟩) ⟨rfl, trivial, trivial⟩) ?_
                  refine aw_ret ?_
                  have hr := Option.some.inj h
                  subst hr
                  exact ret_objs (.inr rfl) [] (objs' := []) (new := []) rfl (by simp) (by simp) rfl (by repeat' first | exact trivial | refine ⟨?_, ?_⟩) rfl rfl (by repeat' first | exact trivial | refine ⟨?_, ?_⟩) (fun _ => ⟨by simp [V.flat, V.flatA, V.flatC, D.flat], flat_nil⟩) ⟨rfl, rfl, rfl⟩
                · have hc95 := not_f hc95
                  have h := if_bt h hc95
                  refine aw_skip ?_
                  refine aw_seq ?_
                  refine aw_region ?_
                  refine awl_val hτ rfl rfl rfl ?_
                  refine awl_val hτ rfl rfl rfl ?_
                  refine awl_val hτ rfl rfl rfl ?_
                  refine awl_nil ?_
                  refine aw_seq ?_
                  refine aw_seq ?_
                  refine aw_region ?_
                  refine awl_val hτ rfl rfl rfl ?_
                  refine awl_val hτ rfl rfl rfl ?_
                  refine awl_elem hτ rfl rfl rfl (getI_some hx68).1 (map_getI hx68) rfl ?_
                  refine awl_val hτ rfl rfl rfl ?_
                  refine awl_val hτ rfl rfl rfl ?_
                  refine awl_val hτ rfl rfl rfl ?_
                  refine awl_val hτ (v := .d (.bool (!(decide (x68.Customers = (w64 ((w64 ((w64 ((w64 ((w64 ((w64 ((w64 (v38 + (1 : Int))) + (1 : Int))) + (1 : Int))) + (1 : Int))) + (1 : Int))) + (1 : Int))) + (1 : Int)))))))) rfl rfl (or_ine _ _) ?_
                  refine awl_nil ?_
                  refine aw_weak (weak_ofP [] (l := [(0, .d (.sl false (a_.map eSBus))), (1, .d (.int .i64 (w64 ((w64 ((w64 ((w64 ((w64 ((w64 ((w64 (v38 + (1 : Int))) + (1 : Int))) + (1 : Int))) + (1 : Int))) + (1 : Int))) + (1 : Int))) + (1 : Int))))), (5, .d (.int .i64 v39)), (99, .d (.bool (!(decide (x68.Customers = (w64 ((w64 ((w64 ((w64 ((w64 ((w64 ((w64 (v38 + (1 : Int))) + (1 : Int))) + (1 : Int))) + (1 : Int))) + (1 : Int))) + (1 : Int))) + (1 : Int))))))))]) (objs := []) rfl (by simp) rfl (by repeat' first | exact trivial | refine ⟨?_, ?_⟩) ⟨rfl, trivial, rfl, trivial, rfl, trivial, rfl, trivial, trivial⟩) ?_
                  refine aw_cond rfl (fun hc96 => ?_) (fun hc96 => ?_)
                  · have hc96 := not_t hc96
                    have h := if_f h hc96
                    refine aw_seq ?_
                    refine aw_region ?_
                    refine awl_val hτ rfl rfl rfl ?_
                    refine awl_nil ?_
                    refine aw_weak (weak_ofP [] (l := [(4, .d (.int .i64 (-1 : Int)))]) (objs := []) rfl (by simp) rfl (by repeat' first | exact trivial | refine ⟨?_, ?_⟩) ⟨rfl, trivial, trivial⟩) ?_
                    refine aw_ret ?_
                    have hr := Option.some.inj h
                    subst hr
                    exact ret_objs (.inr rfl) [] (objs' := []) (new := []) rfl (by simp) (by simp) rfl (by repeat' first | exact trivial | refine ⟨?_, ?_⟩) rfl rfl (by repeat' first | exact trivial | refine ⟨?_, ?_⟩) (fun _ => ⟨by simp [V.flat, V.flatA, V.flatC, D.flat], flat_nil⟩) ⟨rfl, rfl, rfl⟩
                  · have hc96 := not_f hc96
                    have h := if_t h hc96
                    refine aw_skip ?_
                    refine aw_region ?_
                    refine awl_val hτ rfl rfl rfl ?_
                    refine awl_val hτ rfl rfl rfl ?_
                    refine awl_val hτ rfl rfl rfl ?_
                    refine awl_nil ?_
                    refine aw_region ?_
                    refine awl_val hτ rfl rfl rfl ?_
                    refine awl_val hτ rfl rfl rfl ?_
                    refine awl_val hτ rfl rfl rfl ?_
                    refine awl_nil ?_
                    exact ⟨(m53, (w64 ((w64 ((w64 ((w64 ((w64 ((w64 ((w64 ((w64 (v38 + (1 : Int))) + (1 : Int))) + (1 : Int))) + (1 : Int))) + (1 : Int))) + (1 : Int))) + (1 : Int))) + (1 : Int))), (w64 (v39 + (1 : Int)))), h, Nat.lt_succ_self m53, (weak_ofP [] (l := [(0, .d (.sl false (a_.map eSBus))), (1, .d (.int .i64 (w64 ((w64 ((w64 ((w64 ((w64 ((w64 ((w64 ((w64 (v38 + (1 : Int))) + (1 : Int))) + (1 : Int))) + (1 : Int))) + (1 : Int))) + (1 : Int))) + (1 : Int))) + (1 : Int))))), (5, .d (.int .i64 (w64 (v39 + (1 : Int)))))]) (objs := []) rfl (by simp) rfl (by repeat' first | exact trivial | refine ⟨?_, ?_⟩) ⟨rfl, trivial, rfl, trivial, rfl, trivial, trivial⟩)⟩
  · have h := if_f h hc55
    refine aw_exit ?_
    refine aw_seq ?_
    refine aw_region ?_
    refine awl_val hτ rfl rfl rfl ?_
    refine awl_val hτ rfl rfl rfl ?_
    refine awl_nil ?_
    refine aw_weak (weak_ofP [] (l := [(4, .d (.int .i64 v38))]) (objs := []) rfl (by simp) rfl (by repeat' first | exact trivial | refine ⟨?_, ?_⟩) ⟨rfl, trivial, trivial⟩) ?_
    refine aw_ret ?_
    have hr := Option.some.inj h
    subst hr
    exact ret_objs (.inr rfl) [] (objs' := []) (new := []) rfl (by simp) (by simp) rfl (by repeat' first | exact trivial | refine ⟨?_, ?_⟩) rfl rfl (by repeat' first | exact trivial | refine ⟨?_, ?_⟩) (fun _ => ⟨by simp [V.flat, V.flatA, V.flatC, D.flat], flat_nil⟩) ⟨rfl, rfl, rfl⟩
theorem laws_heldBusS_ok (n : Nat) (a_ : List SBus) (k_ : Int) {r : Int} (h : m_laws_heldBusS n a_ k_ = some r) : ACall prog false 89 [.d (.sl false (a_.map eSBus)), .d (.int .i64 k_)] [] (fun v o new => v = .d (.int .i64 r) ∧ o = [] ∧ new = []) := laws_heldBusS_ok_fr0 false n a_ k_ h
theorem laws_heldBusS_ok_fr (n : Nat) (a_ : List SBus) (k_ : Int) {r : Int} (h : m_laws_heldBusS n a_ k_ = some r) : ACall prog true 89 [.d (.sl false (a_.map eSBus)), .d (.int .i64 k_)] [] (fun v o new => v = .d (.int .i64 r) ∧ o = [] ∧ new = []) := laws_heldBusS_ok_fr0 true n a_ k_ h

def m_laws_heldFeeder (n : Nat) (a_ : SFeeder) (k_ : Int) : Option Int :=
  (m_laws_heldBusS n a_.Buses k_).bind fun x2 =>
  if x2 < (0 : Int) then
    some (-1 : Int)
  else
    some x2
theorem laws_heldFeeder_ok_fr0 (fr : Bool) (n : Nat) (a_ : SFeeder) (k_ : Int) {r : Int} (h : m_laws_heldFeeder n a_ k_ = some r) : ACall prog fr 39 [.agg [.d (.cx .f32 a_.Source.A.re a_.Source.A.im), .d (.cx .f32 a_.Source.B.re a_.Source.B.im), .d (.cx .f32 a_.Source.C.re a_.Source.C.im), .d (.sl false (a_.Buses.map eSBus))], .d (.int .i64 k_)] [] (fun v o new => v = .d (.int .i64 r) ∧ o = [] ∧ new = []) := by
  refine acall_of_aw hτ func39 rfl (by simp) (by simp) ?_
  unfold m_laws_heldFeeder at h
  refine aw_seq ?_
  refine aw_region ?_
  refine awl_valH hτ rfl rfl rfl ?_
  refine awl_val hτ rfl rfl rfl ?_
  refine awl_nil ?_
  refine aw_seq ?_
  refine aw_region ?_
  refine awl_val hτ rfl rfl rfl ?_
  refine awl_val hτ rfl rfl rfl ?_
  refine awl_val hτ rfl rfl rfl ?_
  refine bnd_elim h fun x2 hx2 h => ?_
  refine awl_callP hτ false [] rfl rfl rfl (enterOk func89 rfl rfl) rfl rfl (by simp) ⟨trivial, trivial, trivial⟩ (by repeat' first | exact trivial | refine ⟨?_, ?_⟩) (laws_heldBusS_ok n a_.Buses k_ hx2) ?_
  rintro r0 o0 n0 ⟨rfl, rfl, rfl⟩ -
  refine awl_val hτ rfl rfl rfl ?_
  refine awl_nil ?_
  refine aw_seq ?_
  refine aw_seq ?_
  refine aw_weak (weak_ofP [] (l := [(1, .d (.int .i64 x2))]) (objs := []) rfl (by simp) rfl (by repeat' first | exact trivial | refine ⟨?_, ?_⟩) ⟨rfl, trivial, trivial⟩) ?_
  refine aw_region ?_
  refine awl_val hτ rfl rfl rfl ?_
  refine awl_val hτ rfl rfl rfl ?_
  refine awl_nil ?_
  refine aw_cond rfl (fun hc3 => ?_) (fun hc3 => ?_)
  · have h := if_t h hc3
    refine aw_seq ?_
    refine aw_region ?_
    refine awl_val hτ rfl rfl rfl ?_
    refine awl_nil ?_
    refine aw_weak (weak_ofP [] (l := [(4, .d (.int .i64 (-1 : Int)))]) (objs := []) rfl (by simp) rfl (by repeat' first | exact trivial | refine ⟨?_, ?_⟩) ⟨rfl, trivial, trivial⟩) ?_
    refine aw_ret ?_
    have hr := Option.some.inj h
    subst hr
    exact ret_objs (.inr rfl) [] (objs' := []) (new := []) rfl (by simp) (by simp) rfl (by repeat' first | exact trivial | refine ⟨?_, ?_⟩) rfl rfl (by repeat' first | exact trivial | refine ⟨?_, ?_⟩) (fun _ => ⟨by simp [V.flat, V.flatA, V.flatC, D.flat], flat_nil⟩) ⟨rfl, rfl, rfl⟩
  · have h := if_f h hc3
    refine aw_skip ?_
    refine aw_seq ?_
    refine aw_region ?_
    refine awl_val hτ rfl rfl rfl ?_
    refine awl_val hτ rfl rfl rfl ?_
    refine awl_nil ?_
    refine aw_weak (weak_ofP [] (l := [(4, .d (.int .i64 x2))]) (objs := []) rfl (by simp) rfl (by repeat' first | exact trivial | refine ⟨?_, ?_⟩) ⟨rfl, trivial, trivial⟩) ?_
    refine aw_ret ?_
    have hr := Option.some.inj h
    subst hr
    exact ret_objs (.inr rfl) [] (objs' := []) (new := []) rfl (by simp) (by simp) rfl (by repeat' first | exact trivial | refine ⟨?_, ?_⟩) rfl rfl (by repeat' first | exact trivial | refine ⟨?_, ?_⟩) (fun _ => ⟨by simp [V.flat, V.flatA, V.flatC, D.flat], flat_nil⟩) ⟨rfl, rfl, rfl⟩
theorem laws_heldFeeder_ok (n : Nat) (a_ : SFeeder) (k_ : Int) {r : Int} (h : m_laws_heldFeeder n a_ k_ = some r) : ACall prog false 39 [.agg [.d (.cx .f32 a_.Source.A.re a_.Source.A.im), .d (.cx .f32 a_.Source.B.re a_.Source.B.im), .d (.cx .f32 a_.Source.C.re a_.Source.C.im), .d (.sl false (a_.Buses.map eSBus))], .d (.int .i64 k_)] [] (fun v o new => v = .d (.int .i64 r) ∧ o = [] ∧ new = []) := laws_heldFeeder_ok_fr0 false n a_ k_ h
theorem laws_heldFeeder_ok_fr (n : Nat) (a_ : SFeeder) (k_ : Int) {r : Int} (h : m_laws_heldFeeder n a_ k_ = some r) : ACall prog true 39 [.agg [.d (.cx .f32 a_.Source.A.re a_.Source.A.im), .d (.cx .f32 a_.Source.B.re a_.Source.B.im), .d (.cx .f32 a_.Source.C.re a_.Source.C.im), .d (.sl false (a_.Buses.map eSBus))], .d (.int .i64 k_)] [] (fun v o new => v = .d (.int .i64 r) ∧ o = [] ∧ new = []) := laws_heldFeeder_ok_fr0 true n a_ k_ h

def m_laws_heldTieS_l1 (n : Nat) (a_ : List STie) : Nat → Int → Int → Option Int
  | 0, _, _ => none
  | m29 + 1, v20, v21 =>
    if v21 < (a_.length : Int) then
      (getI a_ v21).bind fun x38 =>
      if x38.A = v20 then
        if x38.B = (w64 (v20 + (1 : Int))) then
          (fconv .f64 .f32 (FloatKind.nearest .f64 (w64 ((w64 (v20 + (1 : Int))) + (1 : Int))))).bind fun x43 =>
          (fconv .f64 .f32 (4607182418800017408 : Nat)).bind fun x44 =>
          if (fcmp .eql .f32 x38.Own.re x43 && fcmp .eql .f32 x38.Own.im x44) = true then
            (fconv .f64 .f32 (FloatKind.nearest .f64 (w64 ((w64 ((w64 (v20 + (1 : Int))) + (1 : Int))) + (1 : Int))))).bind fun x48 =>
            (fconv .f64 .f32 (4607182418800017408 : Nat)).bind fun x49 =>
            if (fcmp .eql .f32 x38.Shared.re x48 && fcmp .eql .f32 x38.Shared.im x49) = true then
              if x38.Most = (w64 ((w64 ((w64 ((w64 (v20 + (1 : Int))) + (1 : Int))) + (1 : Int))) + (1 : Int))) then
                (m_laws_heldTieS_l1 n a_ m29) (w64 ((w64 ((w64 ((w64 ((w64 (v20 + (1 : Int))) + (1 : Int))) + (1 : Int))) + (1 : Int))) + (1 : Int))) (w64 (v21 + (1 : Int)))
              else
                some (-1 : Int)
            else
              some (-1 : Int)
          else
            some (-1 : Int)
        else
          some (-1 : Int)
      else
        some (-1 : Int)
    else
      some v20
def m_laws_heldTieS (n : Nat) (a_ : List STie) (k_ : Int) : Option Int :=
  m_laws_heldTieS_l1 n a_ n k_ (0 : Int)
theorem laws_heldTieS_ok_fr0 (fr : Bool) (n : Nat) (a_ : List STie) (k_ : Int) {r : Int} (h : m_laws_heldTieS n a_ k_ = some r) : ACall prog fr 40 [.d (.sl false (a_.map eSTie)), .d (.int .i64 k_)] [] (fun v o new => v = .d (.int .i64 r) ∧ o = [] ∧ new = []) := by
  refine acall_of_aw hτ func40 rfl (by simp) (by simp) ?_
  unfold m_laws_heldTieS at h
  refine aw_seq ?_
  refine aw_region ?_
  refine awl_val hτ rfl rfl rfl ?_
  refine awl_nil ?_
  refine aw_seq ?_
  refine aw_seq ?_
  refine aw_region ?_
  refine awl_val hτ rfl rfl rfl ?_
  refine awl_nil ?_
  refine aw_block ?_
  refine aw_loop (ι := Nat × Int × Int) (fun (m29, v20, v21) => St.of [(0, .d (.sl false (a_.map eSTie))), (1, .d (.int .i64 v20)), (5, .d (.int .i64 v21))] [] f40.ntmps 0) (fun (m29, v20, v21) => m_laws_heldTieS_l1 n a_ m29 v20 v21 = some r) (fun x => x.1) (n, k_, (0 : Int)) h (weak_ofP [] (l := [(0, .d (.sl false (a_.map eSTie))), (1, .d (.int .i64 k_)), (5, .d (.int .i64 (0 : Int)))]) (objs := []) rfl (by simp) rfl (by repeat' first | exact trivial | refine ⟨?_, ?_⟩) ⟨rfl, trivial, rfl, trivial, rfl, trivial, trivial⟩) ?_
  rintro ⟨m29, v20, v21⟩ h
  replace h : m_laws_heldTieS_l1 n a_ m29 v20 v21 = some r := h
  rcases m29 with _ | m29
  · rw [m_laws_heldTieS_l1] at h; cases h
  rw [m_laws_heldTieS_l1] at h
  refine aw_seq ?_
  refine aw_seq ?_
  refine aw_region ?_
  refine awl_val hτ rfl rfl rfl ?_
  refine awl_val hτ rfl rfl rfl ?_
  refine awl_val hτ (v := .d (.int .i64 (a_.length : Int))) rfl rfl (Eq.trans rfl (or_len (f := eSTie) a_)) ?_
  refine awl_val hτ rfl rfl rfl ?_
  refine awl_nil ?_
  refine aw_cond rfl (fun hc31 => ?_) (fun hc31 => ?_)
  · have h := if_t h hc31
    refine aw_skip ?_
    refine aw_seq ?_
    refine aw_block ?_
    refine aw_seq ?_
    refine aw_seq ?_
    refine aw_region ?_
    refine awl_val hτ rfl rfl rfl ?_
    refine awl_val hτ rfl rfl rfl ?_
    refine bnd_elim h fun x38 hx38 h => ?_
    refine awl_elem hτ rfl rfl rfl (getI_some hx38).1 (map_getI hx38) rfl ?_
    refine awl_val hτ rfl rfl rfl ?_
    refine awl_val hτ rfl rfl rfl ?_
    refine awl_val hτ rfl rfl rfl ?_
    refine awl_val hτ (v := .d (.bool (!(decide (x38.A = v20))))) rfl rfl (or_ine _ _) ?_
    refine awl_nil ?_
    refine aw_weak (weak_ofP [] (l := [(0, .d (.sl false (a_.map eSTie))), (1, .d (.int .i64 v20)), (5, .d (.int .i64 v21)), (18, .d (.bool (!(decide (x38.A = v20)))))]) (objs := []) rfl (by simp) rfl (by repeat' first | exact trivial | refine ⟨?_, ?_⟩) ⟨rfl, trivial, rfl, trivial, rfl, trivial, rfl, trivial, trivial⟩) ?_
    refine aw_cond rfl (fun hc39 => ?_) (fun hc39 => ?_)
    · have hc39 := not_t hc39
      have h := if_f h hc39
      refine aw_seq ?_
      refine aw_region ?_
      refine awl_val hτ rfl rfl rfl ?_
      refine awl_nil ?_
      refine aw_weak (weak_ofP [] (l := [(4, .d (.int .i64 (-1 : Int)))]) (objs := []) rfl (by simp) rfl (by repeat' first | exact trivial | refine ⟨?_, ?_⟩) ⟨rfl, trivial, trivial⟩) ?_
      refine aw_ret ?_
      have hr := Option.some.inj h
      subst hr
      exact ret_objs (.inr rfl) [] (objs' := []) (new := []) rfl (by simp) (by simp) rfl (by repeat' first | exact trivial | refine ⟨?_, ?_⟩) rfl rfl (by repeat' first | exact trivial | refine ⟨?_, ?_⟩) (fun _ => ⟨by simp [V.flat, V.flatA, V.flatC, D.flat], flat_nil⟩) ⟨rfl, rfl, rfl⟩
    · have hc39 := not_f hc39
      have h := if_t h hc39
      refine aw_skip ?_
      refine aw_seq ?_
      refine aw_region ?_
      refine awl_val hτ rfl rfl rfl ?_
      refine awl_val hτ rfl rfl rfl ?_
      refine awl_val hτ rfl rfl rfl ?_
      refine awl_nil ?_
      refine aw_seq ?_
      refine aw_seq ?_
      refine aw_region ?_
      refine awl_val hτ rfl rfl rfl ?_
      refine awl_val hτ rfl rfl rfl ?_
      refine awl_elem hτ rfl rfl rfl (getI_some hx38).1 (map_getI hx38) rfl ?_
      refine awl_val hτ rfl rfl rfl ?_
      refine awl_val hτ rfl rfl rfl ?_
      refine awl_val hτ rfl rfl rfl ?_
      refine awl_val hτ (v := .d (.bool (!(decide (x38.B = (w64 (v20 + (1 : Int)))))))) rfl rfl (or_ine _ _) ?_
      refine awl_nil ?_
      refine aw_weak (weak_ofP [] (l := [(0, .d (.sl false (a_.map eSTie))), (1, .d (.int .i64 (w64 (v20 + (1 : Int))))), (5, .d (.int .i64 v21)), (27, .d (.bool (!(decide (x38.B = (w64 (v20 + (1 : Int))))))))]) (objs := []) rfl (by simp) rfl (by repeat' first | exact trivial | refine ⟨?_, ?_⟩) ⟨rfl, trivial, rfl, trivial, rfl, trivial, rfl, trivial, trivial⟩) ?_
      refine aw_cond rfl (fun hc40 => ?_) (fun hc40 => ?_)
      · have hc40 := not_t hc40
        have h := if_f h hc40
        refine aw_seq ?_
        refine aw_region ?_
        refine awl_val hτ rfl rfl rfl ?_
        refine awl_nil ?_
        refine aw_weak (weak_ofP [] (l := [(4, .d (.int .i64 (-1 : Int)))]) (objs := []) rfl (by simp) rfl (by repeat' first | exact trivial | refine ⟨?_, ?_⟩) ⟨rfl, trivial, trivial⟩) ?_
        refine aw_ret ?_
        have hr := Option.some.inj h
        subst hr
        exact ret_objs (.inr rfl) [] (objs' := []) (new := []) rfl (by simp) (by simp) rfl (by repeat' first | exact trivial | refine ⟨?_, ?_⟩) rfl rfl (by repeat' first | exact trivial | refine ⟨?_, ?_⟩) (fun _ => ⟨by simp [V.flat, V.flatA, V.flatC, D.flat], flat_nil⟩) ⟨rfl, rfl, rfl⟩
      · have hc40 := not_f hc40
        have h := if_t h hc40
        refine aw_skip ?_
        refine aw_seq ?_
        refine aw_region ?_
        refine awl_val hτ rfl rfl rfl ?_
        refine awl_val hτ rfl rfl rfl ?_
        refine awl_val hτ rfl rfl rfl ?_
        refine awl_nil ?_
        refine aw_seq ?_
        refine aw_seq ?_
        refine aw_region ?_
        refine awl_val hτ rfl rfl rfl ?_
        refine awl_val hτ rfl rfl rfl ?_
        refine awl_elem hτ rfl rfl rfl (getI_some hx38).1 (map_getI hx38) rfl ?_
        refine awl_val hτ rfl rfl rfl ?_
        refine awl_val hτ rfl rfl rfl ?_
        refine awl_val hτ rfl rfl rfl ?_
        refine awl_val hτ rfl rfl rfl ?_
        refine awl_val hτ rfl rfl rfl ?_
        refine bnd_elim h fun x43 hx43 h => ?_
        refine bnd_elim h fun x44 hx44 h => ?_
        refine awl_x rfl rfl (x_c2c hτ rfl rfl rfl rfl rfl rfl hx43 hx44) ?_
        refine awl_weak (weak_ofP [] (l := [(0, .d (.sl false (a_.map eSTie))), (1, .d (.int .i64 (w64 ((w64 (v20 + (1 : Int))) + (1 : Int))))), (5, .d (.int .i64 v21)), (34, .d (.cx .f32 x38.Own.re x38.Own.im)), (38, .d (.cx .f32 x43 x44))]) (objs := []) rfl (by simp) rfl (by repeat' first | exact trivial | refine ⟨?_, ?_⟩) ⟨rfl, trivial, rfl, trivial, rfl, trivial, rfl, trivial, rfl, trivial, trivial⟩) ?_
        refine awl_val hτ rfl rfl rfl ?_
        refine awl_nil ?_
        refine aw_cond rfl (fun hc45 => ?_) (fun hc45 => ?_)
        · have hc45 := not_t hc45
          have h := if_bf h hc45
          refine aw_seq ?_
          refine aw_region ?_
          refine awl_val hτ rfl rfl rfl ?_
          refine awl_nil ?_
          refine aw_weak (weak_ofP [] (l := [(4, .d (.int .i64 (-1 : Int)))]) (objs := []) rfl (by simp) rfl (by repeat' first | exact trivial | refine ⟨?_, ?_⟩) ⟨rfl, trivial, trivial⟩) ?_
          refine aw_ret ?_
          have hr := Option.some.inj h
          subst hr
          exact ret_objs (.inr rfl) [] (objs' := []) (new := []) rfl (by simp) (by simp) rfl (by repeat' first | exact trivial | refine ⟨?_, ?_⟩) rfl rfl (by repeat' first | exact trivial | refine ⟨?_, ?_⟩) (fun _ => ⟨by simp [V.flat, V.flatA, V.flatC, D.flat], flat_nil⟩) ⟨rfl, rfl, rfl⟩
        · have hc45 := not_f hc45
          have h := if_bt h hc45
          refine aw_skip ?_
          refine aw_seq ?_
          refine aw_region ?_
          refine awl_val hτ rfl rfl rfl ?_
          refine awl_val hτ rfl rfl rfl ?_
          refine awl_val hτ rfl rfl rfl ?_
          refine awl_nil ?_
          refine aw_seq ?_
          refine aw_seq ?_
          refine aw_region ?_
          refine awl_val hτ rfl rfl rfl ?_
          refine awl_val hτ rfl rfl rfl ?_
          refine awl_elem hτ rfl rfl rfl (getI_some hx38).1 (map_getI hx38) rfl ?_
          refine awl_val hτ rfl rfl rfl ?_
          refine awl_val hτ rfl rfl rfl ?_
          refine awl_val hτ rfl rfl rfl ?_
          refine awl_val hτ rfl rfl rfl ?_
          refine awl_val hτ rfl rfl rfl ?_
          refine awl_weak (weak_ofP [] (l := [(0, .d (.sl false (a_.map eSTie))), (1, .d (.int .i64 (w64 ((w64 ((w64 (v20 + (1 : Int))) + (1 : Int))) + (1 : Int))))), (5, .d (.int .i64 v21)), (46, .d (.cx .f32 x38.Shared.re x38.Shared.im)), (49, .d (.cx .f64 (FloatKind.nearest .f64 (w64 ((w64 ((w64 (v20 + (1 : Int))) + (1 : Int))) + (1 : Int)))) (4607182418800017408 : Nat)))]) (objs := []) rfl (by simp) rfl (by repeat' first | exact trivial | refine ⟨?_, ?_⟩) ⟨rfl, trivial, rfl, trivial, rfl, trivial, rfl, trivial, rfl, trivial, trivial⟩) ?_
          refine bnd_elim h fun x48 hx48 h => ?_
          refine bnd_elim h fun x49 hx49 h => ?_
          refine awl_x rfl rfl (x_c2c hτ rfl rfl rfl rfl rfl rfl hx48 hx49) ?_
          refine awl_val hτ rfl rfl rfl ?_
          refine awl_nil ?_
          refine aw_cond rfl (fun hc50 => ?_) (fun hc50 => ?_)
          · have hc50 := not_t hc50
            have h := if_bf h hc50
            refine aw_seq ?_
            refine aw_region ?_
            refine awl_val hτ rfl rfl rfl ?_
            refine awl_nil ?_
            refine aw_weak (weak_ofP [] (l := [(4, .d (.int .i64 (-1 : Int)))]) (objs := []) rfl (by simp) rfl (by repeat' first | exact trivial | refine ⟨?_, ?_⟩) ⟨rfl, trivial, trivial⟩) ?_
            refine aw_ret ?_
            have hr := Option.some.inj h
            subst hr
            exact ret_objs (.inr rfl) [] (objs' := []) (new := []) rfl (by simp) (by simp) rfl (by repeat' first | exact trivial | refine ⟨?_, ?_⟩) rfl rfl (by repeat' first | exact trivial | refine ⟨?_, ?_⟩) (fun _ => ⟨by simp [V.flat, V.flatA, V.flatC, D.flat], flat_nil⟩) ⟨rfl, rfl, rfl⟩
          · have hc50 := not_f hc50
            have h := if_bt h hc50
            refine aw_skip ?_
            refine aw_seq ?_
            refine aw_region ?_
            refine awl_val hτ rfl rfl rfl ?_
            refine awl_val hτ rfl rfl rfl ?_
            refine awl_val hτ rfl rfl rfl ?_
            refine awl_nil ?_
            refine aw_seq ?_
            refine aw_seq ?_
            refine aw_region ?_
            refine awl_val hτ rfl rfl rfl ?_
            refine awl_val hτ rfl rfl rfl ?_
            refine awl_elem hτ rfl rfl rfl (getI_some hx38).1 (map_getI hx38) rfl ?_
            refine awl_val hτ rfl rfl rfl ?_
            refine awl_val hτ rfl rfl rfl ?_
            refine awl_val hτ rfl rfl rfl ?_
            refine awl_val hτ (v := .d (.bool (!(decide (x38.Most = (w64 ((w64 ((w64 ((w64 (v20 + (1 : Int))) + (1 : Int))) + (1 : Int))) + (1 : Int)))))))) rfl rfl (or_ine _ _) ?_
            refine awl_nil ?_
            refine aw_weak (weak_ofP [] (l := [(0, .d (.sl false (a_.map eSTie))), (1, .d (.int .i64 (w64 ((w64 ((w64 ((w64 (v20 + (1 : Int))) + (1 : Int))) + (1 : Int))) + (1 : Int))))), (5, .d (.int .i64 v21)), (60, .d (.bool (!(decide (x38.Most = (w64 ((w64 ((w64 ((w64 (v20 + (1 : Int))) + (1 : Int))) + (1 : Int))) + (1 : Int))))))))]) (objs := []) rfl (by simp) rfl (by repeat' first | exact trivial | refine ⟨?_, ?_⟩) ⟨rfl, trivial, rfl, trivial, rfl, trivial, rfl, trivial, trivial⟩) ?_
            refine aw_cond rfl (fun hc51 => ?_) (fun hc51 => ?_)
            · have hc51 := not_t hc51
              have h := if_f h hc51
              refine aw_seq ?_
              refine aw_region ?_
              refine awl_val hτ rfl rfl rfl ?_
              refine awl_nil ?_
              refine aw_weak (weak_ofP [] (l := [(4, .d (.int .i64 (-1 : Int)))]) (objs := []) rfl (by simp) rfl (by repeat' first | exact trivial | refine ⟨?_, ?_⟩) ⟨rfl, trivial, trivial⟩) ?_
              refine aw_ret ?_
              have hr := Option.some.inj h
              subst hr
              exact ret_objs (.inr rfl) [] (objs' := []) (new := []) rfl (by simp) (by simp) rfl (by repeat' first | exact trivial | refine ⟨?_, ?_⟩) rfl rfl (by repeat' first | exact trivial | refine ⟨?_, ?_⟩) (fun _ => ⟨by simp [V.flat, V.flatA, V.flatC, D.flat], flat_nil⟩) ⟨rfl, rfl, rfl⟩
            · have hc51 := not_f hc51
              have h := if_t h hc51
              refine aw_skip ?_
              refine aw_region ?_
              refine awl_val hτ rfl rfl rfl ?_
              refine awl_val hτ rfl rfl rfl ?_
              refine awl_val hτ rfl rfl rfl ?_
              refine awl_nil ?_
              refine aw_region ?_
              refine awl_val hτ rfl rfl rfl ?_
              refine awl_val hτ rfl rfl rfl ?_
              refine awl_val hτ rfl rfl rfl ?_
              refine awl_nil ?_
              exact ⟨(m29, (w64 ((w64 ((w64 ((w64 ((w64 (v20 + (1 : Int))) + (1 : Int))) + (1 : Int))) + (1 : Int))) + (1 : Int))), (w64 (v21 + (1 : Int)))), h, Nat.lt_succ_self m29, (weak_ofP [] (l := [(0, .d (.sl false (a_.map eSTie))), (1, .d (.int .i64 (w64 ((w64 ((w64 ((w64 ((w64 (v20 + (1 : Int))) + (1 : Int))) + (1 : Int))) + (1 : Int))) + (1 : Int))))), (5, .d (.int .i64 (w64 (v21 + (1 : Int)))))]) (objs := []) rfl (by simp) rfl (by repeat' first | exact trivial | refine ⟨?_, ?_⟩) ⟨rfl, trivial, rfl, trivial, rfl, trivial, trivial⟩)⟩
  · have h := if_f h hc31
    refine aw_exit ?_
    refine aw_seq ?_
    refine aw_region ?_
    refine awl_val hτ rfl rfl rfl ?_
    refine awl_val hτ rfl rfl rfl ?_
    refine awl_nil ?_
    refine aw_weak (weak_ofP [] (l := [(4, .d (.int .i64 v20))]) (objs := []) rfl (by simp) rfl (by repeat' first | exact trivial | refine ⟨?_, ?_⟩) ⟨rfl, trivial, trivial⟩) ?_
    refine aw_ret ?_
    have hr := Option.some.inj h
    subst hr
    exact ret_objs (.inr rfl) [] (objs' := []) (new := []) rfl (by simp) (by simp) rfl (by repeat' first | exact trivial | refine ⟨?_, ?_⟩) rfl rfl (by repeat' first | exact trivial | refine ⟨?_, ?_⟩) (fun _ => ⟨by simp [V.flat, V.flatA, V.flatC, D.flat], flat_nil⟩) ⟨rfl, rfl, rfl⟩
theorem laws_heldTieS_ok (n : Nat) (a_ : List STie) (k_ : Int) {r : Int} (h : m_laws_heldTieS n a_ k_ = some r) : ACall prog false 40 [.d (.sl false (a_.map eSTie)), .d (.int .i64 k_)] [] (fun v o new => v = .d (.int .i64 r) ∧ o = [] ∧ new = []) := laws_heldTieS_ok_fr0 false n a_ k_ h
theorem laws_heldTieS_ok_fr (n : Nat) (a_ : List STie) (k_ : Int) {r : Int} (h : m_laws_heldTieS n a_ k_ = some r) : ACall prog true 40 [.d (.sl false (a_.map eSTie)), .d (.int .i64 k_)] [] (fun v o new => v = .d (.int .i64 r) ∧ o = [] ∧ new = []) := laws_heldTieS_ok_fr0 true n a_ k_ h

def m_laws_heldGrid (n : Nat) (a_ : SGrid) (k_ : Int) : Option Int :=
  (m_laws_heldFeeder n a_.Feeder k_).bind fun x3 =>
  if x3 < (0 : Int) then
    some (-1 : Int)
  else
    (m_laws_heldTieS n a_.Ties x3).bind fun x5 =>
    if x5 < (0 : Int) then
      some (-1 : Int)
    else
      some x5
theorem laws_heldGrid_ok_fr0 (fr : Bool) (n : Nat) (a_ : SGrid) (k_ : Int) {r : Int} (h : m_laws_heldGrid n a_ k_ = some r) : ACall prog fr 11 [.agg [.d (.cx .f32 a_.Feeder.Source.A.re a_.Feeder.Source.A.im), .d (.cx .f32 a_.Feeder.Source.B.re a_.Feeder.Source.B.im), .d (.cx .f32 a_.Feeder.Source.C.re a_.Feeder.Source.C.im), .d (.sl false (a_.Feeder.Buses.map eSBus)), .d (.sl false (a_.Ties.map eSTie))], .d (.int .i64 k_)] [] (fun v o new => v = .d (.int .i64 r) ∧ o = [] ∧ new = []) := by
  refine acall_of_aw hτ func11 rfl (by simp) (by simp) ?_
  unfold m_laws_heldGrid at h
  refine aw_seq ?_
  refine aw_region ?_
  refine awl_valH hτ rfl rfl rfl ?_
  refine awl_val hτ rfl rfl rfl ?_
  refine awl_nil ?_
  refine aw_seq ?_
  refine aw_region ?_
  refine awl_val hτ rfl rfl rfl ?_
  refine awl_val hτ rfl rfl rfl ?_
  refine awl_val hτ rfl rfl rfl ?_
  refine bnd_elim h fun x3 hx3 h => ?_
  refine awl_callP hτ false [] rfl rfl rfl (enterOk func39 rfl rfl) rfl rfl (by simp) ⟨(by repeat' first | exact trivial | refine ⟨?_, ?_⟩), trivial, trivial⟩ (by repeat' first | exact trivial | refine ⟨?_, ?_⟩) (laws_heldFeeder_ok n a_.Feeder k_ hx3) ?_
  rintro r0 o0 n0 ⟨rfl, rfl, rfl⟩ -
  refine awl_val hτ rfl rfl rfl ?_
  refine awl_nil ?_
  refine aw_seq ?_
  refine aw_seq ?_
  refine aw_weak (weak_ofP [0] (l := [(1, .d (.int .i64 x3)), (2, .ptr 0 0)]) (objs := [.box [.d (.cx .f32 a_.Feeder.Source.A.re a_.Feeder.Source.A.im), .d (.cx .f32 a_.Feeder.Source.B.re a_.Feeder.Source.B.im), .d (.cx .f32 a_.Feeder.Source.C.re a_.Feeder.Source.C.im), .d (.sl false (a_.Feeder.Buses.map eSBus)), .d (.sl false (a_.Ties.map eSTie))]]) rfl (by simp) rfl (by repeat' first | exact trivial | refine ⟨?_, ?_⟩) ⟨rfl, trivial, rfl, trivial, trivial⟩) ?_
  refine aw_region ?_
  refine awl_val hτ rfl rfl rfl ?_
  refine awl_val hτ rfl rfl rfl ?_
  refine awl_nil ?_
  refine aw_cond rfl (fun hc4 => ?_) (fun hc4 => ?_)
  · have h := if_t h hc4
    refine aw_seq ?_
    refine aw_region ?_
    refine awl_val hτ rfl rfl rfl ?_
    refine awl_nil ?_
    refine aw_weak (weak_ofP [] (l := [(4, .d (.int .i64 (-1 : Int)))]) (objs := []) rfl (by simp) rfl (by repeat' first | exact trivial | refine ⟨?_, ?_⟩) ⟨rfl, trivial, trivial⟩) ?_
    refine aw_ret ?_
    have hr := Option.some.inj h
    subst hr
    exact ret_objs (.inr rfl) [] (objs' := []) (new := []) rfl (by simp) (by simp) rfl (by repeat' first | exact trivial | refine ⟨?_, ?_⟩) rfl rfl (by repeat' first | exact trivial | refine ⟨?_, ?_⟩) (fun _ => ⟨by simp [V.flat, V.flatA, V.flatC, D.flat], flat_nil⟩) ⟨rfl, rfl, rfl⟩
  · have h := if_f h hc4
    refine aw_skip ?_
    refine aw_seq ?_
    refine aw_region ?_
    refine awl_val hτ rfl rfl rfl ?_
    refine awl_val hτ rfl rfl rfl ?_
    refine awl_val hτ rfl rfl rfl ?_
    refine bnd_elim h fun x5 hx5 h => ?_
    refine awl_callP hτ false [] rfl rfl rfl (enterOk func40 rfl rfl) rfl rfl (by simp) ⟨trivial, trivial, trivial⟩ (by repeat' first | exact trivial | refine ⟨?_, ?_⟩) (laws_heldTieS_ok n a_.Ties x3 hx5) ?_
    rintro r0 o0 n0 ⟨rfl, rfl, rfl⟩ -
    refine awl_val hτ rfl rfl rfl ?_
    refine awl_nil ?_
    refine aw_seq ?_
    refine aw_seq ?_
    refine aw_weak (weak_ofP [] (l := [(1, .d (.int .i64 x5))]) (objs := []) rfl (by simp) rfl (by repeat' first | exact trivial | refine ⟨?_, ?_⟩) ⟨rfl, trivial, trivial⟩) ?_
    refine aw_region ?_
    refine awl_val hτ rfl rfl rfl ?_
    refine awl_val hτ rfl rfl rfl ?_
    refine awl_nil ?_
    refine aw_cond rfl (fun hc6 => ?_) (fun hc6 => ?_)
    · have h := if_t h hc6
      refine aw_seq ?_
      refine aw_region ?_
      refine awl_val hτ rfl rfl rfl ?_
      refine awl_nil ?_
      refine aw_weak (weak_ofP [] (l := [(4, .d (.int .i64 (-1 : Int)))]) (objs := []) rfl (by simp) rfl (by repeat' first | exact trivial | refine ⟨?_, ?_⟩) ⟨rfl, trivial, trivial⟩) ?_
      refine aw_ret ?_
      have hr := Option.some.inj h
      subst hr
      exact ret_objs (.inr rfl) [] (objs' := []) (new := []) rfl (by simp) (by simp) rfl (by repeat' first | exact trivial | refine ⟨?_, ?_⟩) rfl rfl (by repeat' first | exact trivial | refine ⟨?_, ?_⟩) (fun _ => ⟨by simp [V.flat, V.flatA, V.flatC, D.flat], flat_nil⟩) ⟨rfl, rfl, rfl⟩
    · have h := if_f h hc6
      refine aw_skip ?_
      refine aw_seq ?_
      refine aw_region ?_
      refine awl_val hτ rfl rfl rfl ?_
      refine awl_val hτ rfl rfl rfl ?_
      refine awl_nil ?_
      refine aw_weak (weak_ofP [] (l := [(4, .d (.int .i64 x5))]) (objs := []) rfl (by simp) rfl (by repeat' first | exact trivial | refine ⟨?_, ?_⟩) ⟨rfl, trivial, trivial⟩) ?_
      refine aw_ret ?_
      have hr := Option.some.inj h
      subst hr
      exact ret_objs (.inr rfl) [] (objs' := []) (new := []) rfl (by simp) (by simp) rfl (by repeat' first | exact trivial | refine ⟨?_, ?_⟩) rfl rfl (by repeat' first | exact trivial | refine ⟨?_, ?_⟩) (fun _ => ⟨by simp [V.flat, V.flatA, V.flatC, D.flat], flat_nil⟩) ⟨rfl, rfl, rfl⟩
theorem laws_heldGrid_ok (n : Nat) (a_ : SGrid) (k_ : Int) {r : Int} (h : m_laws_heldGrid n a_ k_ = some r) : ACall prog false 11 [.agg [.d (.cx .f32 a_.Feeder.Source.A.re a_.Feeder.Source.A.im), .d (.cx .f32 a_.Feeder.Source.B.re a_.Feeder.Source.B.im), .d (.cx .f32 a_.Feeder.Source.C.re a_.Feeder.Source.C.im), .d (.sl false (a_.Feeder.Buses.map eSBus)), .d (.sl false (a_.Ties.map eSTie))], .d (.int .i64 k_)] [] (fun v o new => v = .d (.int .i64 r) ∧ o = [] ∧ new = []) := laws_heldGrid_ok_fr0 false n a_ k_ h
theorem laws_heldGrid_ok_fr (n : Nat) (a_ : SGrid) (k_ : Int) {r : Int} (h : m_laws_heldGrid n a_ k_ = some r) : ACall prog true 11 [.agg [.d (.cx .f32 a_.Feeder.Source.A.re a_.Feeder.Source.A.im), .d (.cx .f32 a_.Feeder.Source.B.re a_.Feeder.Source.B.im), .d (.cx .f32 a_.Feeder.Source.C.re a_.Feeder.Source.C.im), .d (.sl false (a_.Feeder.Buses.map eSBus)), .d (.sl false (a_.Ties.map eSTie))], .d (.int .i64 k_)] [] (fun v o new => v = .d (.int .i64 r) ∧ o = [] ∧ new = []) := laws_heldGrid_ok_fr0 true n a_ k_ h

def m_laws_FnExactLoadGrid_j2 (n : Nat) (x17 : SGrid × Bool) (x21 : Int × List SBus × List STie) : Option Bool :=
  (m_laws_heldGrid n (SGrid.mk (SFeeder.mk x17.1.Feeder.Source x21.2.1) x21.2.2) (1 : Int)).bind fun x31 =>
  if x31 < (0 : Int) then
    some false
  else
    if x31 = x21.1 then
      some true
    else
      some false
def m_laws_FnExactLoadGrid_j3 (n : Nat) (x17 : SGrid × Bool) (x21 : Int × List SBus × List STie) (v38 : Bool) : Option Bool :=
  if v38 = true then
    some false
  else
    m_laws_FnExactLoadGrid_j2 n x17 x21
def m_laws_FnExactLoadGrid_j1 (n : Nat) (aS_ : Str) (x16 : SGrid × Bool) (x17 : SGrid × Bool) : Option Bool :=
  (m_laws_markGrid n (SGrid.mk (SFeeder.mk x17.1.Feeder.Source x17.1.Feeder.Buses) x17.1.Ties) (1 : Int)).bind fun x21 =>
  grd (x21.2.1.length = x17.1.Feeder.Buses.length) <|
  grd (x21.2.2.length = x17.1.Ties.length) <|
  (m_laws_heldGrid n (SGrid.mk (SFeeder.mk x17.1.Feeder.Source x21.2.1) x21.2.2) (1 : Int)).bind fun x24 =>
  if x24 < (0 : Int) then
    some false
  else
    if x24 = x21.1 then
      (m_impl_LoadGrid n aS_).bind fun x27 =>
      (m_laws_eqGrid n (SGrid.mk (SFeeder.mk x27.1.Feeder.Source x27.1.Feeder.Buses) x27.1.Ties) x16.1).bind fun x41 =>
      if x41 = true then
        m_laws_FnExactLoadGrid_j3 n x17 x21 (!(x27.2 == x16.2))
      else
        m_laws_FnExactLoadGrid_j3 n x17 x21 true
    else
      some false
def m_laws_FnExactLoadGrid_j4 (n : Nat) (aS_ : Str) (x16 : SGrid × Bool) (x17 : SGrid × Bool) (v47 : Bool) : Option Bool :=
  if v47 = true then
    some false
  else
    m_laws_FnExactLoadGrid_j1 n aS_ x16 x17
def m_laws_FnExactLoadGrid (n : Nat) (aS_ : Str) : Option Bool :=
  if (aS_.length : Int) > (1048576 : Int) then
    some true
  else
    (m_spec_LoadGrid n aS_).bind fun x16 =>
    (m_impl_LoadGrid n aS_).bind fun x17 =>
    (m_laws_eqGrid n (SGrid.mk (SFeeder.mk x17.1.Feeder.Source x17.1.Feeder.Buses) x17.1.Ties) x16.1).bind fun x50 =>
    if x50 = true then
      m_laws_FnExactLoadGrid_j4 n aS_ x16 x17 (!(x17.2 == x16.2))
    else
      m_laws_FnExactLoadGrid_j4 n aS_ x16 x17 true
theorem laws_FnExactLoadGrid_ok_fr0 (fr : Bool) (n : Nat) (aS_ : Str) {r : Bool} (h : m_laws_FnExactLoadGrid n aS_ = some r) : ACall prog fr 3 [.d (.str (bstr aS_))] [] (fun v o new => v = .d (.bool r) ∧ o = [] ∧ new = []) := by
  refine acall_of_aw hτ func3 rfl (by simp) (by simp) ?_
  unfold m_laws_FnExactLoadGrid at h
  refine aw_seq ?_
  refine aw_region ?_
  refine awl_val hτ rfl rfl rfl ?_
  refine awl_nil ?_
  refine aw_seq ?_
  refine aw_seq ?_
  refine aw_region ?_
  refine awl_val hτ rfl rfl rfl ?_
  refine awl_val hτ rfl rfl rfl ?_
  refine awl_val hτ rfl rfl rfl ?_
  refine awl_nil ?_
  refine aw_cond rfl (fun hc15 => ?_) (fun hc15 => ?_)
  · have h := if_t h hc15
    refine aw_seq ?_
    refine aw_region ?_
    refine awl_val hτ rfl rfl rfl ?_
    refine awl_nil ?_
    refine aw_weak (weak_ofP [] (l := [(2, .d (.bool true))]) (objs := []) rfl (by simp) rfl (by repeat' first | exact trivial | refine ⟨?_, ?_⟩) ⟨rfl, trivial, trivial⟩) ?_
    refine aw_ret ?_
    have hr := Option.some.inj h
    subst hr
    exact ret_objs (.inr rfl) [] (objs' := []) (new := []) rfl (by simp) (by simp) rfl (by repeat' first | exact trivial | refine ⟨?_, ?_⟩) rfl rfl (by repeat' first | exact trivial | refine ⟨?_, ?_⟩) (fun _ => ⟨by simp [V.flat, V.flatA, V.flatC, D.flat], flat_nil⟩) ⟨rfl, rfl, rfl⟩
  · have h := if_f h hc15
    refine aw_skip ?_
    refine aw_seq ?_
    refine aw_region ?_
    refine awl_val hτ rfl rfl rfl ?_
    refine bnd_elim h fun x16 hx16 h => ?_
    refine awl_callP hτ false [] rfl rfl rfl (enterOk func7 rfl rfl) rfl rfl (by simp) ⟨trivial, trivial⟩ (by repeat' first | exact trivial | refine ⟨?_, ?_⟩) (spec_LoadGrid_ok n aS_ hx16) ?_
    rintro r0 o0 n0 ⟨rfl, rfl, rfl⟩ -
    refine awl_val hτ rfl rfl rfl ?_
    refine awl_val hτ rfl rfl rfl ?_
    refine awl_val hτ rfl rfl rfl ?_
    refine awl_valH hτ rfl rfl rfl ?_
    refine awl_valH hτ rfl rfl rfl ?_
    refine awl_val hτ rfl rfl rfl ?_
    refine awl_nil ?_
    refine aw_seq ?_
    refine aw_weak (weak_ofP [0] (l := [(0, .d (.str (bstr aS_))), (3, .ptr 0 0), (4, .d (.bool x16.2))]) (objs := [.box [.d (.cx .f32 x16.1.Feeder.Source.A.re x16.1.Feeder.Source.A.im), .d (.cx .f32 x16.1.Feeder.Source.B.re x16.1.Feeder.Source.B.im), .d (.cx .f32 x16.1.Feeder.Source.C.re x16.1.Feeder.Source.C.im), .d (.sl false (x16.1.Feeder.Buses.map eSBus)), .d (.sl false (x16.1.Ties.map eSTie))]]) rfl (by simp) rfl (by repeat' first | exact trivial | refine ⟨?_, ?_⟩) ⟨rfl, trivial, rfl, trivial, rfl, trivial, trivial⟩) ?_
    refine aw_region ?_
    refine awl_val hτ rfl rfl rfl ?_
    refine bnd_elim h fun x17 hx17 h => ?_
    refine awl_callP hτ false [] rfl rfl rfl (enterOk func8 rfl rfl) rfl rfl (by simp) ⟨trivial, trivial⟩ (by repeat' first | exact trivial | refine ⟨?_, ?_⟩) (impl_LoadGrid_ok n aS_ hx17) ?_
    rintro r0 o0 n0 ⟨rfl, rfl, rfl⟩ -
    refine awl_val hτ rfl rfl rfl ?_
    refine awl_val hτ rfl rfl rfl ?_
    refine awl_val hτ rfl rfl rfl ?_
    refine awl_valH hτ rfl rfl rfl ?_
    refine awl_valH hτ rfl rfl rfl ?_
    refine awl_val hτ rfl rfl rfl ?_
    refine awl_nil ?_
    refine aw_hk1 (ι := Unit) (fun _ => St.of [(0, .d (.str (bstr aS_))), (3, .ptr 0 0), (4, .d (.bool x16.2)), (5, .ptr 1 0)] [.box [.d (.cx .f32 x16.1.Feeder.Source.A.re x16.1.Feeder.Source.A.im), .d (.cx .f32 x16.1.Feeder.Source.B.re x16.1.Feeder.Source.B.im), .d (.cx .f32 x16.1.Feeder.Source.C.re x16.1.Feeder.Source.C.im), .d (.sl false (x16.1.Feeder.Buses.map eSBus)), .d (.sl false (x16.1.Ties.map eSTie))], .box [.d (.cx .f32 x17.1.Feeder.Source.A.re x17.1.Feeder.Source.A.im), .d (.cx .f32 x17.1.Feeder.Source.B.re x17.1.Feeder.Source.B.im), .d (.cx .f32 x17.1.Feeder.Source.C.re x17.1.Feeder.Source.C.im), .row 2 x17.1.Feeder.Buses.length 0 x17.1.Feeder.Buses.length, .row 3 x17.1.Ties.length 0 x17.1.Ties.length], .row 8 (x17.1.Feeder.Buses.map eSBus), .row 5 (x17.1.Ties.map eSTie)] f3.ntmps 0) (fun _ => m_laws_FnExactLoadGrid_j1 n aS_ x16 x17 = some r) ?_ (fun hk43 => ?_)
    · rintro ⟨⟩ h
      replace h : m_laws_FnExactLoadGrid_j1 n aS_ x16 x17 = some r := h
      unfold m_laws_FnExactLoadGrid_j1 at h
      refine aw_seq ?_
      refine aw_region ?_
      refine awl_val hτ rfl rfl rfl ?_
      refine awl_nil ?_
      refine aw_seq ?_
      refine aw_region ?_
      refine awl_val hτ rfl rfl rfl ?_
      refine awl_val hτ rfl rfl rfl ?_
      refine bnd_elim h fun x21 hx21 h => ?_
      refine awl_callP hτ false [2, 3] rfl rfl rfl (enterOk func10 rfl rfl) rfl rfl (by simp) ⟨(by repeat' first | exact trivial | refine ⟨?_, ?_⟩), trivial, trivial⟩ (by repeat' first | exact trivial | refine ⟨?_, ?_⟩) (laws_markGrid_ok n (SGrid.mk (SFeeder.mk x17.1.Feeder.Source x17.1.Feeder.Buses) x17.1.Ties) (1 : Int) hx21) ?_
      rintro r0 o0 n0 ⟨rfl, rfl, rfl⟩ -
      refine grd_elim h fun hg22 h => ?_
      refine grd_elim h fun hg23 h => ?_
      refine awl_val hτ rfl rfl rfl ?_
      refine awl_nil ?_
      refine aw_seq ?_
      refine aw_region ?_
      refine awl_val hτ rfl rfl rfl ?_
      refine awl_nil ?_
      refine aw_seq ?_
      refine aw_weak (weak_ofP [0, 1, 2, 3] (l := [(0, .d (.str (bstr aS_))), (3, .ptr 0 0), (4, .d (.bool x16.2)), (5, .ptr 1 0), (7, .d (.int .i64 x21.1)), (8, .d (.int .i64 (1 : Int)))]) (objs := [.box [.d (.cx .f32 x16.1.Feeder.Source.A.re x16.1.Feeder.Source.A.im), .d (.cx .f32 x16.1.Feeder.Source.B.re x16.1.Feeder.Source.B.im), .d (.cx .f32 x16.1.Feeder.Source.C.re x16.1.Feeder.Source.C.im), .d (.sl false (x16.1.Feeder.Buses.map eSBus)), .d (.sl false (x16.1.Ties.map eSTie))], .box [.d (.cx .f32 x17.1.Feeder.Source.A.re x17.1.Feeder.Source.A.im), .d (.cx .f32 x17.1.Feeder.Source.B.re x17.1.Feeder.Source.B.im), .d (.cx .f32 x17.1.Feeder.Source.C.re x17.1.Feeder.Source.C.im), .row 2 x21.2.1.length 0 x21.2.1.length, .row 3 x21.2.2.length 0 x21.2.2.length], .row 8 (x21.2.1.map eSBus), .row 5 (x21.2.2.map eSTie)]) rfl (by simp) (mapO_cons rfl (mapO_cons (exO_box (mapO_cons rfl (mapO_cons rfl (mapO_cons rfl (mapO_cons (exC_rowL rfl (by simp [hg22, hg23])) (mapO_cons (exC_rowL rfl (by simp [hg22, hg23])) mapO_nil)))))) (mapO_cons rfl (mapO_cons rfl mapO_nil)))) ⟨(by repeat' first | exact trivial | refine ⟨?_, ?_⟩), ⟨trivial, trivial, trivial, trivial, trivial⟩, trivial, trivial, trivial⟩ ⟨rfl, trivial, rfl, trivial, rfl, trivial, rfl, trivial, rfl, trivial, rfl, trivial, trivial⟩) ?_
      refine aw_region ?_
      refine awl_val hτ rfl rfl rfl ?_
      refine awl_val hτ rfl rfl rfl ?_
      refine awl_weak (weak_ofP [0, 1, 2, 3] (l := [(0, .d (.str (bstr aS_))), (3, .ptr 0 0), (4, .d (.bool x16.2)), (5, .ptr 1 0), (7, .d (.int .i64 x21.1)), (8, .d (.int .i64 (1 : Int))), (36, .agg [.d (.cx .f32 x17.1.Feeder.Source.A.re x17.1.Feeder.Source.A.im), .d (.cx .f32 x17.1.Feeder.Source.B.re x17.1.Feeder.Source.B.im), .d (.cx .f32 x17.1.Feeder.Source.C.re x17.1.Feeder.Source.C.im), .row 2 x21.2.1.length 0 x21.2.1.length, .row 3 x21.2.2.length 0 x21.2.2.length]), (37, .d (.int .i64 (1 : Int)))]) (objs := [.box [.d (.cx .f32 x16.1.Feeder.Source.A.re x16.1.Feeder.Source.A.im), .d (.cx .f32 x16.1.Feeder.Source.B.re x16.1.Feeder.Source.B.im), .d (.cx .f32 x16.1.Feeder.Source.C.re x16.1.Feeder.Source.C.im), .d (.sl false (x16.1.Feeder.Buses.map eSBus)), .d (.sl false (x16.1.Ties.map eSTie))], .box [.d (.cx .f32 x17.1.Feeder.Source.A.re x17.1.Feeder.Source.A.im), .d (.cx .f32 x17.1.Feeder.Source.B.re x17.1.Feeder.Source.B.im), .d (.cx .f32 x17.1.Feeder.Source.C.re x17.1.Feeder.Source.C.im), .row 2 x21.2.1.length 0 x21.2.1.length, .row 3 x21.2.2.length 0 x21.2.2.length], .row 8 (x21.2.1.map eSBus), .row 5 (x21.2.2.map eSTie)]) rfl (by simp) rfl (by repeat' first | exact trivial | refine ⟨?_, ?_⟩) ⟨rfl, trivial, rfl, trivial, rfl, trivial, rfl, trivial, rfl, trivial, rfl, trivial, rfl, (by repeat' first | exact trivial | refine ⟨?_, ?_⟩), rfl, trivial, trivial⟩) ?_
      refine bnd_elim h fun x24 hx24 h => ?_
      refine awl_callP hτ true [] rfl rfl rfl (enterOk func11 rfl rfl) (mapO_cons (exV_agg (mapO_cons rfl (mapO_cons rfl (mapO_cons rfl (mapO_cons (exC_view (f := eSBus) x21.2.1 rfl rfl rfl) (mapO_cons (exC_view (f := eSTie) x21.2.2 rfl rfl rfl) mapO_nil)))))) (mapO_cons rfl mapO_nil)) rfl (by simp) ⟨⟨trivial, trivial, trivial, (exP_view (f := eSBus) x21.2.1 rfl rfl rfl), (exP_view (f := eSTie) x21.2.2 rfl rfl rfl)⟩, trivial, trivial⟩ (by repeat' first | exact trivial | refine ⟨?_, ?_⟩) (laws_heldGrid_ok_fr n (SGrid.mk (SFeeder.mk x17.1.Feeder.Source x21.2.1) x21.2.2) (1 : Int) hx24) ?_
      rintro r0 o0 n0 ⟨rfl, rfl, rfl⟩ -
      refine awl_val hτ rfl rfl rfl ?_
      refine awl_nil ?_
      refine aw_seq ?_
      refine aw_seq ?_
      refine aw_region ?_
      refine awl_val hτ rfl rfl rfl ?_
      refine awl_val hτ rfl rfl rfl ?_
      refine awl_nil ?_
      refine aw_cond rfl (fun hc25 => ?_) (fun hc25 => ?_)
      · have h := if_t h hc25
        refine aw_seq ?_
        refine aw_region ?_
        refine awl_val hτ rfl rfl rfl ?_
        refine awl_nil ?_
        refine aw_weak (weak_ofP [] (l := [(2, .d (.bool false))]) (objs := []) rfl (by simp) rfl (by repeat' first | exact trivial | refine ⟨?_, ?_⟩) ⟨rfl, trivial, trivial⟩) ?_
        refine aw_ret ?_
        have hr := Option.some.inj h
        subst hr
        exact ret_objs (.inr rfl) [] (objs' := []) (new := []) rfl (by simp) (by simp) rfl (by repeat' first | exact trivial | refine ⟨?_, ?_⟩) rfl rfl (by repeat' first | exact trivial | refine ⟨?_, ?_⟩) (fun _ => ⟨by simp [V.flat, V.flatA, V.flatC, D.flat], flat_nil⟩) ⟨rfl, rfl, rfl⟩
      · have h := if_f h hc25
        refine aw_skip ?_
        refine aw_seq ?_
        refine aw_seq ?_
        refine aw_region ?_
        refine awl_val hτ rfl rfl rfl ?_
        refine awl_val hτ rfl rfl rfl ?_
        refine awl_val hτ (v := .d (.bool (!(decide (x24 = x21.1))))) rfl rfl (or_ine _ _) ?_
        refine awl_nil ?_
        refine aw_weak (weak_ofP [0, 1, 2, 3] (l := [(0, .d (.str (bstr aS_))), (3, .ptr 0 0), (4, .d (.bool x16.2)), (5, .ptr 1 0), (7, .d (.int .i64 x21.1)), (43, .d (.bool (!(decide (x24 = x21.1)))))]) (objs := [.box [.d (.cx .f32 x16.1.Feeder.Source.A.re x16.1.Feeder.Source.A.im), .d (.cx .f32 x16.1.Feeder.Source.B.re x16.1.Feeder.Source.B.im), .d (.cx .f32 x16.1.Feeder.Source.C.re x16.1.Feeder.Source.C.im), .d (.sl false (x16.1.Feeder.Buses.map eSBus)), .d (.sl false (x16.1.Ties.map eSTie))], .box [.d (.cx .f32 x17.1.Feeder.Source.A.re x17.1.Feeder.Source.A.im), .d (.cx .f32 x17.1.Feeder.Source.B.re x17.1.Feeder.Source.B.im), .d (.cx .f32 x17.1.Feeder.Source.C.re x17.1.Feeder.Source.C.im), .row 2 x21.2.1.length 0 x21.2.1.length, .row 3 x21.2.2.length 0 x21.2.2.length], .row 8 (x21.2.1.map eSBus), .row 5 (x21.2.2.map eSTie)]) rfl (by simp) rfl (by repeat' first | exact trivial | refine ⟨?_, ?_⟩) ⟨rfl, trivial, rfl, trivial, rfl, trivial, rfl, trivial, rfl, trivial, rfl, trivial, trivial⟩) ?_
        refine aw_cond rfl (fun hc26 => ?_) (fun hc26 => ?_)
        · have hc26 := not_t hc26
          have h := if_f h hc26
          refine aw_seq ?_
          refine aw_region ?_
          refine awl_val hτ rfl rfl rfl ?_
          refine awl_nil ?_
          refine aw_weak (weak_ofP [] (l := [(2, .d (.bool false))]) (objs := []) rfl (by simp) rfl (by repeat' first | exact trivial | refine ⟨?_, ?_⟩) ⟨rfl, trivial, trivial⟩) ?_
          refine aw_ret ?_
          have hr := Option.some.inj h
          subst hr
          exact ret_objs (.inr rfl) [] (objs' := []) (new := []) rfl (by simp) (by simp) rfl (by repeat' first | exact trivial | refine ⟨?_, ?_⟩) rfl rfl (by repeat' first | exact trivial | refine ⟨?_, ?_⟩) (fun _ => ⟨by simp [V.flat, V.flatA, V.flatC, D.flat], flat_nil⟩) ⟨rfl, rfl, rfl⟩
        · have hc26 := not_f hc26
          have h := if_t h hc26
          refine aw_skip ?_
          refine aw_seq ?_
          refine aw_region ?_
          refine awl_val hτ rfl rfl rfl ?_
          refine bnd_elim h fun x27 hx27 h => ?_
          refine awl_callP hτ false [] rfl rfl rfl (enterOk func8 rfl rfl) rfl rfl (by simp) ⟨trivial, trivial⟩ (by repeat' first | exact trivial | refine ⟨?_, ?_⟩) (impl_LoadGrid_ok n aS_ hx27) ?_
          rintro r0 o0 n0 ⟨rfl, rfl, rfl⟩ -
          refine awl_val hτ rfl rfl rfl ?_
          refine awl_val hτ rfl rfl rfl ?_
          refine awl_val hτ rfl rfl rfl ?_
          refine awl_valH hτ rfl rfl rfl ?_
          refine awl_valH hτ rfl rfl rfl ?_
          refine awl_val hτ rfl rfl rfl ?_
          refine awl_nil ?_
          refine aw_hk1 (ι := Unit) (fun _ => St.of [(5, .ptr 0 0), (7, .d (.int .i64 x21.1))] [.box [.d (.cx .f32 x17.1.Feeder.Source.A.re x17.1.Feeder.Source.A.im), .d (.cx .f32 x17.1.Feeder.Source.B.re x17.1.Feeder.Source.B.im), .d (.cx .f32 x17.1.Feeder.Source.C.re x17.1.Feeder.Source.C.im), .row 1 x21.2.1.length 0 x21.2.1.length, .row 2 x21.2.2.length 0 x21.2.2.length], .row 8 (x21.2.1.map eSBus), .row 5 (x21.2.2.map eSTie)] f3.ntmps 0) (fun _ => m_laws_FnExactLoadGrid_j2 n x17 x21 = some r) ?_ (fun hk34 => ?_)
          · rintro ⟨⟩ h
            replace h : m_laws_FnExactLoadGrid_j2 n x17 x21 = some r := h
            unfold m_laws_FnExactLoadGrid_j2 at h
            refine aw_seq ?_
            refine aw_region ?_
            refine awl_val hτ rfl rfl rfl ?_
            refine awl_nil ?_
            refine aw_seq ?_
            refine aw_region ?_
            refine awl_val hτ rfl rfl rfl ?_
            refine awl_val hτ rfl rfl rfl ?_
            refine awl_weak (weak_ofP [1, 2] (l := [(7, .d (.int .i64 x21.1)), (8, .d (.int .i64 (1 : Int))), (58, .agg [.d (.cx .f32 x17.1.Feeder.Source.A.re x17.1.Feeder.Source.A.im), .d (.cx .f32 x17.1.Feeder.Source.B.re x17.1.Feeder.Source.B.im), .d (.cx .f32 x17.1.Feeder.Source.C.re x17.1.Feeder.Source.C.im), .row 0 x21.2.1.length 0 x21.2.1.length, .row 1 x21.2.2.length 0 x21.2.2.length]), (59, .d (.int .i64 (1 : Int)))]) (objs := [.row 8 (x21.2.1.map eSBus), .row 5 (x21.2.2.map eSTie)]) rfl (by simp) rfl (by repeat' first | exact trivial | refine ⟨?_, ?_⟩) ⟨rfl, trivial, rfl, trivial, rfl, (by repeat' first | exact trivial | refine ⟨?_, ?_⟩), rfl, trivial, trivial⟩) ?_
            refine bnd_elim h fun x31 hx31 h => ?_
            refine awl_callP hτ true [] rfl rfl rfl (enterOk func11 rfl rfl) (mapO_cons (exV_agg (mapO_cons rfl (mapO_cons rfl (mapO_cons rfl (mapO_cons (exC_view (f := eSBus) x21.2.1 rfl rfl rfl) (mapO_cons (exC_view (f := eSTie) x21.2.2 rfl rfl rfl) mapO_nil)))))) (mapO_cons rfl mapO_nil)) rfl (by simp) ⟨⟨trivial, trivial, trivial, (exP_view (f := eSBus) x21.2.1 rfl rfl rfl), (exP_view (f := eSTie) x21.2.2 rfl rfl rfl)⟩, trivial, trivial⟩ (by repeat' first | exact trivial | refine ⟨?_, ?_⟩) (laws_heldGrid_ok_fr n (SGrid.mk (SFeeder.mk x17.1.Feeder.Source x21.2.1) x21.2.2) (1 : Int) hx31) ?_
            rintro r0 o0 n0 ⟨rfl, rfl, rfl⟩ -
            refine awl_val hτ rfl rfl rfl ?_
            refine awl_nil ?_
            refine aw_seq ?_
            refine aw_seq ?_
            refine aw_region ?_
            refine awl_val hτ rfl rfl rfl ?_
            refine awl_val hτ rfl rfl rfl ?_
            refine awl_nil ?_
            refine aw_cond rfl (fun hc32 => ?_) (fun hc32 => ?_)
            · have h := if_t h hc32
              refine aw_seq ?_
              refine aw_region ?_
              refine awl_val hτ rfl rfl rfl ?_
              refine awl_nil ?_
              refine aw_weak (weak_ofP [] (l := [(2, .d (.bool false))]) (objs := []) rfl (by simp) rfl (by repeat' first | exact trivial | refine ⟨?_, ?_⟩) ⟨rfl, trivial, trivial⟩) ?_
              refine aw_ret ?_
              have hr := Option.some.inj h
              subst hr
              exact ret_objs (.inr rfl) [] (objs' := []) (new := []) rfl (by simp) (by simp) rfl (by repeat' first | exact trivial | refine ⟨?_, ?_⟩) rfl rfl (by repeat' first | exact trivial | refine ⟨?_, ?_⟩) (fun _ => ⟨by simp [V.flat, V.flatA, V.flatC, D.flat], flat_nil⟩) ⟨rfl, rfl, rfl⟩
            · have h := if_f h hc32
              refine aw_skip ?_
              refine aw_seq ?_
              refine aw_seq ?_
              refine aw_region ?_
              refine awl_val hτ rfl rfl rfl ?_
              refine awl_val hτ rfl rfl rfl ?_
              refine awl_val hτ (v := .d (.bool (!(decide (x31 = x21.1))))) rfl rfl (or_ine _ _) ?_
              refine awl_nil ?_
              refine aw_weak (weak_ofP [] (l := [(65, .d (.bool (!(decide (x31 = x21.1)))))]) (objs := []) rfl (by simp) rfl (by repeat' first | exact trivial | refine ⟨?_, ?_⟩) ⟨rfl, trivial, trivial⟩) ?_
              refine aw_cond rfl (fun hc33 => ?_) (fun hc33 => ?_)
              · have hc33 := not_t hc33
                have h := if_f h hc33
                refine aw_seq ?_
                refine aw_region ?_
                refine awl_val hτ rfl rfl rfl ?_
                refine awl_nil ?_
                refine aw_weak (weak_ofP [] (l := [(2, .d (.bool false))]) (objs := []) rfl (by simp) rfl (by repeat' first | exact trivial | refine ⟨?_, ?_⟩) ⟨rfl, trivial, trivial⟩) ?_
                refine aw_ret ?_
                have hr := Option.some.inj h
                subst hr
                exact ret_objs (.inr rfl) [] (objs' := []) (new := []) rfl (by simp) (by simp) rfl (by repeat' first | exact trivial | refine ⟨?_, ?_⟩) rfl rfl (by repeat' first | exact trivial | refine ⟨?_, ?_⟩) (fun _ => ⟨by simp [V.flat, V.flatA, V.flatC, D.flat], flat_nil⟩) ⟨rfl, rfl, rfl⟩
              · have hc33 := not_f hc33
                have h := if_t h hc33
                refine aw_skip ?_
                refine aw_seq ?_
                refine aw_region ?_
                refine awl_val hτ rfl rfl rfl ?_
                refine awl_nil ?_
                refine aw_weak (weak_ofP [] (l := [(2, .d (.bool true))]) (objs := []) rfl (by simp) rfl (by repeat' first | exact trivial | refine ⟨?_, ?_⟩) ⟨rfl, trivial, trivial⟩) ?_
                refine aw_ret ?_
                have hr := Option.some.inj h
                subst hr
                exact ret_objs (.inr rfl) [] (objs' := []) (new := []) rfl (by simp) (by simp) rfl (by repeat' first | exact trivial | refine ⟨?_, ?_⟩) rfl rfl (by repeat' first | exact trivial | refine ⟨?_, ?_⟩) (fun _ => ⟨by simp [V.flat, V.flatA, V.flatC, D.flat], flat_nil⟩) ⟨rfl, rfl, rfl⟩
          · refine aw_seq ?_
            refine aw_hk1 (ι := Bool) (fun v38 => St.of [(5, .ptr 0 0), (7, .d (.int .i64 x21.1)), (57, .d (.bool v38))] [.box [.d (.cx .f32 x17.1.Feeder.Source.A.re x17.1.Feeder.Source.A.im), .d (.cx .f32 x17.1.Feeder.Source.B.re x17.1.Feeder.Source.B.im), .d (.cx .f32 x17.1.Feeder.Source.C.re x17.1.Feeder.Source.C.im), .row 1 x21.2.1.length 0 x21.2.1.length, .row 2 x21.2.2.length 0 x21.2.2.length], .row 8 (x21.2.1.map eSBus), .row 5 (x21.2.2.map eSTie)] f3.ntmps 0) (fun v38 => m_laws_FnExactLoadGrid_j3 n x17 x21 v38 = some r) ?_ (fun hk40 => ?_)
            · rintro v38 h
              replace h : m_laws_FnExactLoadGrid_j3 n x17 x21 v38 = some r := h
              unfold m_laws_FnExactLoadGrid_j3 at h
              refine aw_cond rfl (fun hc39 => ?_) (fun hc39 => ?_)
              · have h := if_bt h hc39
                refine aw_seq ?_
                refine aw_region ?_
                refine awl_val hτ rfl rfl rfl ?_
                refine awl_nil ?_
                refine aw_weak (weak_ofP [] (l := [(2, .d (.bool false))]) (objs := []) rfl (by simp) rfl (by repeat' first | exact trivial | refine ⟨?_, ?_⟩) ⟨rfl, trivial, trivial⟩) ?_
                refine aw_ret ?_
                have hr := Option.some.inj h
                subst hr
                exact ret_objs (.inr rfl) [] (objs' := []) (new := []) rfl (by simp) (by simp) rfl (by repeat' first | exact trivial | refine ⟨?_, ?_⟩) rfl rfl (by repeat' first | exact trivial | refine ⟨?_, ?_⟩) (fun _ => ⟨by simp [V.flat, V.flatA, V.flatC, D.flat], flat_nil⟩) ⟨rfl, rfl, rfl⟩
              · have h := if_bf h hc39
                refine aw_skip ?_
                refine aw_weak (weak_ofP [0, 1, 2] (l := [(5, .ptr 0 0), (7, .d (.int .i64 x21.1))]) (objs := [.box [.d (.cx .f32 x17.1.Feeder.Source.A.re x17.1.Feeder.Source.A.im), .d (.cx .f32 x17.1.Feeder.Source.B.re x17.1.Feeder.Source.B.im), .d (.cx .f32 x17.1.Feeder.Source.C.re x17.1.Feeder.Source.C.im), .row 1 x21.2.1.length 0 x21.2.1.length, .row 2 x21.2.2.length 0 x21.2.2.length], .row 8 (x21.2.1.map eSBus), .row 5 (x21.2.2.map eSTie)]) rfl (by simp) rfl (by repeat' first | exact trivial | refine ⟨?_, ?_⟩) ⟨rfl, trivial, rfl, trivial, trivial⟩) ?_
                exact hk34 () h
            · refine aw_seq ?_
              refine aw_weak (weak_ofP [0, 1, 2, 3, 6, 4, 5] (l := [(3, .ptr 0 0), (4, .d (.bool x16.2)), (5, .ptr 1 0), (7, .d (.int .i64 x21.1)), (9, .ptr 4 0), (10, .d (.bool x27.2))]) (objs := [.box [.d (.cx .f32 x16.1.Feeder.Source.A.re x16.1.Feeder.Source.A.im), .d (.cx .f32 x16.1.Feeder.Source.B.re x16.1.Feeder.Source.B.im), .d (.cx .f32 x16.1.Feeder.Source.C.re x16.1.Feeder.Source.C.im), .d (.sl false (x16.1.Feeder.Buses.map eSBus)), .d (.sl false (x16.1.Ties.map eSTie))], .box [.d (.cx .f32 x17.1.Feeder.Source.A.re x17.1.Feeder.Source.A.im), .d (.cx .f32 x17.1.Feeder.Source.B.re x17.1.Feeder.Source.B.im), .d (.cx .f32 x17.1.Feeder.Source.C.re x17.1.Feeder.Source.C.im), .row 2 x21.2.1.length 0 x21.2.1.length, .row 3 x21.2.2.length 0 x21.2.2.length], .row 8 (x21.2.1.map eSBus), .row 5 (x21.2.2.map eSTie), .box [.d (.cx .f32 x27.1.Feeder.Source.A.re x27.1.Feeder.Source.A.im), .d (.cx .f32 x27.1.Feeder.Source.B.re x27.1.Feeder.Source.B.im), .d (.cx .f32 x27.1.Feeder.Source.C.re x27.1.Feeder.Source.C.im), .row 5 x27.1.Feeder.Buses.length 0 x27.1.Feeder.Buses.length, .row 6 x27.1.Ties.length 0 x27.1.Ties.length], .row 8 (x27.1.Feeder.Buses.map eSBus), .row 5 (x27.1.Ties.map eSTie)]) rfl (by simp) rfl (by repeat' first | exact trivial | refine ⟨?_, ?_⟩) ⟨rfl, trivial, rfl, trivial, rfl, trivial, rfl, trivial, rfl, trivial, rfl, trivial, trivial⟩) ?_
              refine aw_region ?_
              refine awl_val hτ rfl rfl rfl ?_
              refine awl_val hτ rfl rfl rfl ?_
              refine awl_weak (weak_ofP [1, 2, 3, 5, 6] (l := [(4, .d (.bool x16.2)), (5, .ptr 0 0), (7, .d (.int .i64 x21.1)), (10, .d (.bool x27.2)), (49, .agg [.d (.cx .f32 x27.1.Feeder.Source.A.re x27.1.Feeder.Source.A.im), .d (.cx .f32 x27.1.Feeder.Source.B.re x27.1.Feeder.Source.B.im), .d (.cx .f32 x27.1.Feeder.Source.C.re x27.1.Feeder.Source.C.im), .row 3 x27.1.Feeder.Buses.length 0 x27.1.Feeder.Buses.length, .row 4 x27.1.Ties.length 0 x27.1.Ties.length]), (50, .agg [.d (.cx .f32 x16.1.Feeder.Source.A.re x16.1.Feeder.Source.A.im), .d (.cx .f32 x16.1.Feeder.Source.B.re x16.1.Feeder.Source.B.im), .d (.cx .f32 x16.1.Feeder.Source.C.re x16.1.Feeder.Source.C.im), .d (.sl false (x16.1.Feeder.Buses.map eSBus)), .d (.sl false (x16.1.Ties.map eSTie))])]) (objs := [.box [.d (.cx .f32 x17.1.Feeder.Source.A.re x17.1.Feeder.Source.A.im), .d (.cx .f32 x17.1.Feeder.Source.B.re x17.1.Feeder.Source.B.im), .d (.cx .f32 x17.1.Feeder.Source.C.re x17.1.Feeder.Source.C.im), .row 1 x21.2.1.length 0 x21.2.1.length, .row 2 x21.2.2.length 0 x21.2.2.length], .row 8 (x21.2.1.map eSBus), .row 5 (x21.2.2.map eSTie), .row 8 (x27.1.Feeder.Buses.map eSBus), .row 5 (x27.1.Ties.map eSTie)]) rfl (by simp) rfl (by repeat' first | exact trivial | refine ⟨?_, ?_⟩) ⟨rfl, trivial, rfl, trivial, rfl, trivial, rfl, trivial, rfl, (by repeat' first | exact trivial | refine ⟨?_, ?_⟩), rfl, (by repeat' first | exact trivial | refine ⟨?_, ?_⟩), trivial⟩) ?_
              refine bnd_elim h fun x41 hx41 h => ?_
              refine awl_callP hτ true [] rfl rfl rfl (enterOk func9 rfl rfl) (mapO_cons (exV_agg (mapO_cons rfl (mapO_cons rfl (mapO_cons rfl (mapO_cons (exC_view (f := eSBus) x27.1.Feeder.Buses rfl rfl rfl) (mapO_cons (exC_view (f := eSTie) x27.1.Ties rfl rfl rfl) mapO_nil)))))) (mapO_cons rfl mapO_nil)) rfl (by simp) ⟨⟨trivial, trivial, trivial, (exP_view (f := eSBus) x27.1.Feeder.Buses rfl rfl rfl), (exP_view (f := eSTie) x27.1.Ties rfl rfl rfl)⟩, (by repeat' first | exact trivial | refine ⟨?_, ?_⟩), trivial⟩ (by repeat' first | exact trivial | refine ⟨?_, ?_⟩) (laws_eqGrid_ok_fr n (SGrid.mk (SFeeder.mk x27.1.Feeder.Source x27.1.Feeder.Buses) x27.1.Ties) x16.1 hx41) ?_
              rintro r0 o0 n0 ⟨rfl, rfl, rfl⟩ -
              refine awl_val hτ rfl rfl rfl ?_
              refine awl_val hτ rfl rfl rfl ?_
              refine awl_split 53 rfl (fun hb42 => ?_) (fun hb42 => ?_)
              · have hb42 := not_t hb42
                have h := if_bf h hb42
                refine awl_skip rfl rfl ?_
                refine awl_skip rfl rfl ?_
                refine awl_skip rfl rfl ?_
                refine awl_val hτ rfl rfl rfl ?_
                refine awl_nil ?_
                refine aw_weak (weak_ofP [0, 1, 2] (l := [(5, .ptr 0 0), (7, .d (.int .i64 x21.1)), (57, .d (.bool true))]) (objs := [.box [.d (.cx .f32 x17.1.Feeder.Source.A.re x17.1.Feeder.Source.A.im), .d (.cx .f32 x17.1.Feeder.Source.B.re x17.1.Feeder.Source.B.im), .d (.cx .f32 x17.1.Feeder.Source.C.re x17.1.Feeder.Source.C.im), .row 1 x21.2.1.length 0 x21.2.1.length, .row 2 x21.2.2.length 0 x21.2.2.length], .row 8 (x21.2.1.map eSBus), .row 5 (x21.2.2.map eSTie)]) rfl (by simp) rfl (by repeat' first | exact trivial | refine ⟨?_, ?_⟩) ⟨rfl, trivial, rfl, trivial, rfl, trivial, trivial⟩) ?_
                exact hk40 true h
              · have hb42 := not_f hb42
                have h := if_bt h hb42
                refine awl_val hτ rfl rfl rfl ?_
                refine awl_val hτ rfl rfl rfl ?_
                refine awl_val hτ rfl rfl rfl ?_
                refine awl_val hτ rfl rfl rfl ?_
                refine awl_nil ?_
                refine aw_weak (weak_ofP [0, 1, 2] (l := [(5, .ptr 0 0), (7, .d (.int .i64 x21.1)), (57, .d (.bool (!(x27.2 == x16.2))))]) (objs := [.box [.d (.cx .f32 x17.1.Feeder.Source.A.re x17.1.Feeder.Source.A.im), .d (.cx .f32 x17.1.Feeder.Source.B.re x17.1.Feeder.Source.B.im), .d (.cx .f32 x17.1.Feeder.Source.C.re x17.1.Feeder.Source.C.im), .row 1 x21.2.1.length 0 x21.2.1.length, .row 2 x21.2.2.length 0 x21.2.2.length], .row 8 (x21.2.1.map eSBus), .row 5 (x21.2.2.map eSTie)]) rfl (by simp) rfl (by repeat' first | exact trivial | refine ⟨?_, ?_⟩) ⟨rfl, trivial, rfl, trivial, rfl, trivial, trivial⟩) ?_
                exact hk40 (!(x27.2 == x16.2)) h
    · refine aw_seq ?_
      refine aw_hk1 (ι := Bool) (fun v47 => St.of [(0, .d (.str (bstr aS_))), (3, .ptr 0 0), (4, .d (.bool x16.2)), (5, .ptr 1 0), (32, .d (.bool v47))] [.box [.d (.cx .f32 x16.1.Feeder.Source.A.re x16.1.Feeder.Source.A.im), .d (.cx .f32 x16.1.Feeder.Source.B.re x16.1.Feeder.Source.B.im), .d (.cx .f32 x16.1.Feeder.Source.C.re x16.1.Feeder.Source.C.im), .d (.sl false (x16.1.Feeder.Buses.map eSBus)), .d (.sl false (x16.1.Ties.map eSTie))], .box [.d (.cx .f32 x17.1.Feeder.Source.A.re x17.1.Feeder.Source.A.im), .d (.cx .f32 x17.1.Feeder.Source.B.re x17.1.Feeder.Source.B.im), .d (.cx .f32 x17.1.Feeder.Source.C.re x17.1.Feeder.Source.C.im), .row 2 x17.1.Feeder.Buses.length 0 x17.1.Feeder.Buses.length, .row 3 x17.1.Ties.length 0 x17.1.Ties.length], .row 8 (x17.1.Feeder.Buses.map eSBus), .row 5 (x17.1.Ties.map eSTie)] f3.ntmps 0) (fun v47 => m_laws_FnExactLoadGrid_j4 n aS_ x16 x17 v47 = some r) ?_ (fun hk49 => ?_)
      · rintro v47 h
        replace h : m_laws_FnExactLoadGrid_j4 n aS_ x16 x17 v47 = some r := h
        unfold m_laws_FnExactLoadGrid_j4 at h
        refine aw_cond rfl (fun hc48 => ?_) (fun hc48 => ?_)
        · have h := if_bt h hc48
          refine aw_seq ?_
          refine aw_region ?_
          refine awl_val hτ rfl rfl rfl ?_
          refine awl_nil ?_
          refine aw_weak (weak_ofP [] (l := [(2, .d (.bool false))]) (objs := []) rfl (by simp) rfl (by repeat' first | exact trivial | refine ⟨?_, ?_⟩) ⟨rfl, trivial, trivial⟩) ?_
          refine aw_ret ?_
          have hr := Option.some.inj h
          subst hr
          exact ret_objs (.inr rfl) [] (objs' := []) (new := []) rfl (by simp) (by simp) rfl (by repeat' first | exact trivial | refine ⟨?_, ?_⟩) rfl rfl (by repeat' first | exact trivial | refine ⟨?_, ?_⟩) (fun _ => ⟨by simp [V.flat, V.flatA, V.flatC, D.flat], flat_nil⟩) ⟨rfl, rfl, rfl⟩
        · have h := if_bf h hc48
          refine aw_skip ?_
          refine aw_weak (weak_ofP [0, 1, 2, 3] (l := [(0, .d (.str (bstr aS_))), (3, .ptr 0 0), (4, .d (.bool x16.2)), (5, .ptr 1 0)]) (objs := [.box [.d (.cx .f32 x16.1.Feeder.Source.A.re x16.1.Feeder.Source.A.im), .d (.cx .f32 x16.1.Feeder.Source.B.re x16.1.Feeder.Source.B.im), .d (.cx .f32 x16.1.Feeder.Source.C.re x16.1.Feeder.Source.C.im), .d (.sl false (x16.1.Feeder.Buses.map eSBus)), .d (.sl false (x16.1.Ties.map eSTie))], .box [.d (.cx .f32 x17.1.Feeder.Source.A.re x17.1.Feeder.Source.A.im), .d (.cx .f32 x17.1.Feeder.Source.B.re x17.1.Feeder.Source.B.im), .d (.cx .f32 x17.1.Feeder.Source.C.re x17.1.Feeder.Source.C.im), .row 2 x17.1.Feeder.Buses.length 0 x17.1.Feeder.Buses.length, .row 3 x17.1.Ties.length 0 x17.1.Ties.length], .row 8 (x17.1.Feeder.Buses.map eSBus), .row 5 (x17.1.Ties.map eSTie)]) rfl (by simp) rfl (by repeat' first | exact trivial | refine ⟨?_, ?_⟩) ⟨rfl, trivial, rfl, trivial, rfl, trivial, rfl, trivial, trivial⟩) ?_
          exact hk43 () h
      · refine aw_seq ?_
        refine aw_weak (weak_ofP [0, 3, 1, 2] (l := [(0, .d (.str (bstr aS_))), (3, .ptr 0 0), (4, .d (.bool x16.2)), (5, .ptr 1 0), (6, .d (.bool x17.2))]) (objs := [.box [.d (.cx .f32 x16.1.Feeder.Source.A.re x16.1.Feeder.Source.A.im), .d (.cx .f32 x16.1.Feeder.Source.B.re x16.1.Feeder.Source.B.im), .d (.cx .f32 x16.1.Feeder.Source.C.re x16.1.Feeder.Source.C.im), .d (.sl false (x16.1.Feeder.Buses.map eSBus)), .d (.sl false (x16.1.Ties.map eSTie))], .box [.d (.cx .f32 x17.1.Feeder.Source.A.re x17.1.Feeder.Source.A.im), .d (.cx .f32 x17.1.Feeder.Source.B.re x17.1.Feeder.Source.B.im), .d (.cx .f32 x17.1.Feeder.Source.C.re x17.1.Feeder.Source.C.im), .row 2 x17.1.Feeder.Buses.length 0 x17.1.Feeder.Buses.length, .row 3 x17.1.Ties.length 0 x17.1.Ties.length], .row 8 (x17.1.Feeder.Buses.map eSBus), .row 5 (x17.1.Ties.map eSTie)]) rfl (by simp) rfl (by repeat' first | exact trivial | refine ⟨?_, ?_⟩) ⟨rfl, trivial, rfl, trivial, rfl, trivial, rfl, trivial, rfl, trivial, trivial⟩) ?_
        refine aw_region ?_
        refine awl_val hτ rfl rfl rfl ?_
        refine awl_val hτ rfl rfl rfl ?_
        refine awl_weak (weak_ofP [0, 1, 2, 3] (l := [(0, .d (.str (bstr aS_))), (3, .ptr 0 0), (4, .d (.bool x16.2)), (5, .ptr 1 0), (6, .d (.bool x17.2)), (24, .agg [.d (.cx .f32 x17.1.Feeder.Source.A.re x17.1.Feeder.Source.A.im), .d (.cx .f32 x17.1.Feeder.Source.B.re x17.1.Feeder.Source.B.im), .d (.cx .f32 x17.1.Feeder.Source.C.re x17.1.Feeder.Source.C.im), .row 2 x17.1.Feeder.Buses.length 0 x17.1.Feeder.Buses.length, .row 3 x17.1.Ties.length 0 x17.1.Ties.length]), (25, .agg [.d (.cx .f32 x16.1.Feeder.Source.A.re x16.1.Feeder.Source.A.im), .d (.cx .f32 x16.1.Feeder.Source.B.re x16.1.Feeder.Source.B.im), .d (.cx .f32 x16.1.Feeder.Source.C.re x16.1.Feeder.Source.C.im), .d (.sl false (x16.1.Feeder.Buses.map eSBus)), .d (.sl false (x16.1.Ties.map eSTie))])]) (objs := [.box [.d (.cx .f32 x16.1.Feeder.Source.A.re x16.1.Feeder.Source.A.im), .d (.cx .f32 x16.1.Feeder.Source.B.re x16.1.Feeder.Source.B.im), .d (.cx .f32 x16.1.Feeder.Source.C.re x16.1.Feeder.Source.C.im), .d (.sl false (x16.1.Feeder.Buses.map eSBus)), .d (.sl false (x16.1.Ties.map eSTie))], .box [.d (.cx .f32 x17.1.Feeder.Source.A.re x17.1.Feeder.Source.A.im), .d (.cx .f32 x17.1.Feeder.Source.B.re x17.1.Feeder.Source.B.im), .d (.cx .f32 x17.1.Feeder.Source.C.re x17.1.Feeder.Source.C.im), .row 2 x17.1.Feeder.Buses.length 0 x17.1.Feeder.Buses.length, .row 3 x17.1.Ties.length 0 x17.1.Ties.length], .row 8 (x17.1.Feeder.Buses.map eSBus), .row 5 (x17.1.Ties.map eSTie)]) rfl (by simp) rfl (by repeat' first | exact trivial | refine ⟨?_, ?_⟩) ⟨rfl, trivial, rfl, trivial, rfl, trivial, rfl, trivial, rfl, trivial, rfl, (by repeat' first | exact trivial | refine ⟨?_, ?_⟩), rfl, (by repeat' first | exact trivial | refine ⟨?_, ?_⟩), trivial⟩) ?_
        refine bnd_elim h fun x50 hx50 h => ?_
        refine awl_callP hτ true [] rfl rfl rfl (enterOk func9 rfl rfl) (mapO_cons (exV_agg (mapO_cons rfl (mapO_cons rfl (mapO_cons rfl (mapO_cons (exC_view (f := eSBus) x17.1.Feeder.Buses rfl rfl rfl) (mapO_cons (exC_view (f := eSTie) x17.1.Ties rfl rfl rfl) mapO_nil)))))) (mapO_cons rfl mapO_nil)) rfl (by simp) ⟨⟨trivial, trivial, trivial, (exP_view (f := eSBus) x17.1.Feeder.Buses rfl rfl rfl), (exP_view (f := eSTie) x17.1.Ties rfl rfl rfl)⟩, (by repeat' first | exact trivial | refine ⟨?_, ?_⟩), trivial⟩ (by repeat' first | exact trivial | refine ⟨?_, ?_⟩) (laws_eqGrid_ok_fr n (SGrid.mk (SFeeder.mk x17.1.Feeder.Source x17.1.Feeder.Buses) x17.1.Ties) x16.1 hx50) ?_
        rintro r0 o0 n0 ⟨rfl, rfl, rfl⟩ -
        refine awl_val hτ rfl rfl rfl ?_
        refine awl_val hτ rfl rfl rfl ?_
        refine awl_split 28 rfl (fun hb51 => ?_) (fun hb51 => ?_)
        · have hb51 := not_t hb51
          have h := if_bf h hb51
          refine awl_skip rfl rfl ?_
          refine awl_skip rfl rfl ?_
          refine awl_skip rfl rfl ?_
          refine awl_val hτ rfl rfl rfl ?_
          refine awl_nil ?_
          refine aw_weak (weak_ofP [0, 1, 2, 3] (l := [(0, .d (.str (bstr aS_))), (3, .ptr 0 0), (4, .d (.bool x16.2)), (5, .ptr 1 0), (32, .d (.bool true))]) (objs := [.box [.d (.cx .f32 x16.1.Feeder.Source.A.re x16.1.Feeder.Source.A.im), .d (.cx .f32 x16.1.Feeder.Source.B.re x16.1.Feeder.Source.B.im), .d (.cx .f32 x16.1.Feeder.Source.C.re x16.1.Feeder.Source.C.im), .d (.sl false (x16.1.Feeder.Buses.map eSBus)), .d (.sl false (x16.1.Ties.map eSTie))], .box [.d (.cx .f32 x17.1.Feeder.Source.A.re x17.1.Feeder.Source.A.im), .d (.cx .f32 x17.1.Feeder.Source.B.re x17.1.Feeder.Source.B.im), .d (.cx .f32 x17.1.Feeder.Source.C.re x17.1.Feeder.Source.C.im), .row 2 x17.1.Feeder.Buses.length 0 x17.1.Feeder.Buses.length, .row 3 x17.1.Ties.length 0 x17.1.Ties.length], .row 8 (x17.1.Feeder.Buses.map eSBus), .row 5 (x17.1.Ties.map eSTie)]) rfl (by simp) rfl (by repeat' first | exact trivial | refine ⟨?_, ?_⟩) ⟨rfl, trivial, rfl, trivial, rfl, trivial, rfl, trivial, rfl, trivial, trivial⟩) ?_
          exact hk49 true h
        · have hb51 := not_f hb51
          have h := if_bt h hb51
          refine awl_val hτ rfl rfl rfl ?_
          refine awl_val hτ rfl rfl rfl ?_
          refine awl_val hτ rfl rfl rfl ?_
          refine awl_val hτ rfl rfl rfl ?_
          refine awl_nil ?_
          refine aw_weak (weak_ofP [0, 1, 2, 3] (l := [(0, .d (.str (bstr aS_))), (3, .ptr 0 0), (4, .d (.bool x16.2)), (5, .ptr 1 0), (32, .d (.bool (!(x17.2 == x16.2))))]) (objs := [.box [.d (.cx .f32 x16.1.Feeder.Source.A.re x16.1.Feeder.Source.A.im), .d (.cx .f32 x16.1.Feeder.Source.B.re x16.1.Feeder.Source.B.im), .d (.cx .f32 x16.1.Feeder.Source.C.re x16.1.Feeder.Source.C.im), .d (.sl false (x16.1.Feeder.Buses.map eSBus)), .d (.sl false (x16.1.Ties.map eSTie))], .box [.d (.cx .f32 x17.1.Feeder.Source.A.re x17.1.Feeder.Source.A.im), .d (.cx .f32 x17.1.Feeder.Source.B.re x17.1.Feeder.Source.B.im), .d (.cx .f32 x17.1.Feeder.Source.C.re x17.1.Feeder.Source.C.im), .row 2 x17.1.Feeder.Buses.length 0 x17.1.Feeder.Buses.length, .row 3 x17.1.Ties.length 0 x17.1.Ties.length], .row 8 (x17.1.Feeder.Buses.map eSBus), .row 5 (x17.1.Ties.map eSTie)]) rfl (by simp) rfl (by repeat' first | exact trivial | refine ⟨?_, ?_⟩) ⟨rfl, trivial, rfl, trivial, rfl, trivial, rfl, trivial, rfl, trivial, trivial⟩) ?_
          exact hk49 (!(x17.2 == x16.2)) h
theorem laws_FnExactLoadGrid_ok (n : Nat) (aS_ : Str) {r : Bool} (h : m_laws_FnExactLoadGrid n aS_ = some r) : ACall prog false 3 [.d (.str (bstr aS_))] [] (fun v o new => v = .d (.bool r) ∧ o = [] ∧ new = []) := laws_FnExactLoadGrid_ok_fr0 false n aS_ h
theorem laws_FnExactLoadGrid_ok_fr (n : Nat) (aS_ : Str) {r : Bool} (h : m_laws_FnExactLoadGrid n aS_ = some r) : ACall prog true 3 [.d (.str (bstr aS_))] [] (fun v o new => v = .d (.bool r) ∧ o = [] ∧ new = []) := laws_FnExactLoadGrid_ok_fr0 true n aS_ h

end Go.Proofs.Ytmllgpkgjniomaa.AWN
