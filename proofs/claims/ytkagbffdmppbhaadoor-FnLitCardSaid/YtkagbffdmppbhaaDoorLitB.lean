/- Models and contracts, printed by program. -/
import Derived.Test.YtkagbffdmppbhaaDoorLitA
set_option linter.unusedVariables false
set_option linter.unusedSimpArgs false
set_option linter.unusedSectionVars false
set_option maxHeartbeats 2000000
namespace Go.Proofs.YtkagbffdmppbhaaDoor.AWN
open Go Go.Proofs.Tryd

def m_impl_Tie_ok (n : Nat) (t_ : STie) (buses_ : Int) : Option Bool :=
  if t_.A = t_.B then
    some false
  else
    (m_impl_in n t_.A (0 : Int) (w64 (buses_ - (1 : Int)))).bind fun x11 =>
    if x11 = true then
      (m_impl_in n t_.B (0 : Int) (w64 (buses_ - (1 : Int)))).bind fun x13 =>
      if x13 = true then
        (m_impl_in n t_.Most (0 : Int) (16000000 : Int)).bind fun x15 =>
        some x15
      else
        some false
    else
      some false
theorem impl_Tie_ok_ok_fr0 (fr : Bool) (n : Nat) (t_ : STie) (buses_ : Int) {r : Bool} (h : m_impl_Tie_ok n t_ buses_ = some r) : ACall prog fr 34 [.ptr 0 0, .d (.int .i64 buses_)] [.box [.d (.int .i64 t_.A), .d (.int .i64 t_.B), .d (.cx .f32 t_.Own.re t_.Own.im), .d (.cx .f32 t_.Shared.re t_.Shared.im), .d (.int .i64 t_.Most)]] (fun v o new => v = .d (.bool r) ∧ o = [.box [.d (.int .i64 t_.A), .d (.int .i64 t_.B), .d (.cx .f32 t_.Own.re t_.Own.im), .d (.cx .f32 t_.Shared.re t_.Shared.im), .d (.int .i64 t_.Most)]] ∧ new = []) := by
  refine acall_of_aw hτ func34 rfl (by simp) (by simp) ?_
  unfold m_impl_Tie_ok at h
  refine aw_seq ?_
  refine aw_region ?_
  refine awl_val hτ rfl rfl rfl ?_
  refine awl_nil ?_
  refine aw_seq ?_
  refine any_start ?_
  refine any_val hτ [] 0 rfl rfl rfl rfl rfl ?_
  refine any_val hτ [] 1 rfl rfl rfl rfl rfl ?_
  refine any_val hτ [0] 2 rfl rfl rfl rfl rfl ?_
  refine any_val hτ [0] 3 rfl rfl rfl rfl rfl ?_
  refine any_val hτ [] 4 rfl rfl rfl rfl rfl ?_
  refine any_val hτ [] 5 rfl rfl rfl rfl rfl ?_
  refine any_val hτ [0] 6 rfl rfl rfl rfl rfl ?_
  refine any_val hτ [0] 7 rfl rfl rfl rfl rfl ?_
  refine any_val hτ (v := .d (.bool (!(decide (t_.A = t_.B))))) [] 8 rfl rfl rfl rfl (or_ine _ _) ?_
  refine any_val hτ [] 9 rfl rfl rfl rfl rfl ?_
  refine any_split 14 rfl (fun hb10 => ?_) (fun hb10 => ?_)
  · have hb10 := not_t hb10
    have h := if_f h hb10
    refine any_val hτ [] 10 rfl rfl rfl rfl rfl ?_
    refine any_val hτ [] 11 rfl rfl rfl rfl rfl ?_
    refine any_val hτ [0] 12 rfl rfl rfl rfl rfl ?_
    refine any_val hτ [0] 13 rfl rfl rfl rfl rfl ?_
    refine any_val hτ [] 14 rfl rfl rfl rfl rfl ?_
    refine any_val hτ [] 15 rfl rfl rfl rfl rfl ?_
    refine bnd_elim h fun x11 hx11 h => ?_
    refine any_callP hτ false [] [0] 16 rfl rfl rfl rfl (enterOk func64 rfl rfl) rfl rfl (by simp) ⟨trivial, trivial, trivial, trivial⟩ (by repeat' first | exact trivial | refine ⟨?_, ?_⟩) (impl_in_ok n t_.A (0 : Int) (w64 (buses_ - (1 : Int))) hx11) ⟨rfl, trivial⟩ ?_
    refine any_val hτ [] 17 rfl rfl rfl rfl rfl ?_
    refine any_val hτ [] 18 rfl rfl rfl rfl rfl ?_
    refine any_split 23 rfl (fun hb12 => ?_) (fun hb12 => ?_)
    · have h := if_bt h hb12
      refine any_val hτ [] 19 rfl rfl rfl rfl rfl ?_
      refine any_val hτ [] 20 rfl rfl rfl rfl rfl ?_
      refine any_val hτ [0] 21 rfl rfl rfl rfl rfl ?_
      refine any_val hτ [0] 22 rfl rfl rfl rfl rfl ?_
      refine any_val hτ [] 23 rfl rfl rfl rfl rfl ?_
      refine any_val hτ [] 24 rfl rfl rfl rfl rfl ?_
      refine bnd_elim h fun x13 hx13 h => ?_
      refine any_callP hτ false [] [0] 25 rfl rfl rfl rfl (enterOk func64 rfl rfl) rfl rfl (by simp) ⟨trivial, trivial, trivial, trivial⟩ (by repeat' first | exact trivial | refine ⟨?_, ?_⟩) (impl_in_ok n t_.B (0 : Int) (w64 (buses_ - (1 : Int))) hx13) ⟨rfl, trivial⟩ ?_
      refine any_val hτ [] 26 rfl rfl rfl rfl rfl ?_
      refine any_val hτ [] 27 rfl rfl rfl rfl rfl ?_
      refine any_split 32 rfl (fun hb14 => ?_) (fun hb14 => ?_)
      · have h := if_bt h hb14
        refine any_val hτ [] 28 rfl rfl rfl rfl rfl ?_
        refine any_val hτ [] 29 rfl rfl rfl rfl rfl ?_
        refine any_val hτ [0] 30 rfl rfl rfl rfl rfl ?_
        refine any_val hτ [0] 31 rfl rfl rfl rfl rfl ?_
        refine bnd_elim h fun x15 hx15 h => ?_
        refine any_callP hτ false [] [0] 32 rfl rfl rfl rfl (enterOk func64 rfl rfl) rfl rfl (by simp) ⟨trivial, trivial, trivial, trivial⟩ (by repeat' first | exact trivial | refine ⟨?_, ?_⟩) (impl_in_ok n t_.Most (0 : Int) (16000000 : Int) hx15) ⟨rfl, trivial⟩ ?_
        refine any_val hτ [] 33 rfl rfl rfl rfl rfl ?_
        refine any_val hτ [] 34 rfl rfl rfl rfl rfl ?_
        refine any_done mixed (by kernel_rfl) ?_
        refine aw_weak (weak_ofP [0] (l := [(4, .d (.bool x15))]) (objs := [.box [.d (.int .i64 t_.A), .d (.int .i64 t_.B), .d (.cx .f32 t_.Own.re t_.Own.im), .d (.cx .f32 t_.Shared.re t_.Shared.im), .d (.int .i64 t_.Most)]]) rfl (by simp) rfl (by repeat' first | exact trivial | refine ⟨?_, ?_⟩) ⟨rfl, trivial, trivial⟩) ?_
        refine aw_ret ?_
        have hr := Option.some.inj h
        subst hr
        exact ret_objs (.inr rfl) [] (objs' := [.box [.d (.int .i64 t_.A), .d (.int .i64 t_.B), .d (.cx .f32 t_.Own.re t_.Own.im), .d (.cx .f32 t_.Shared.re t_.Shared.im), .d (.int .i64 t_.Most)]]) (new := []) rfl (by simp) (by simp) rfl (by repeat' first | exact trivial | refine ⟨?_, ?_⟩) rfl rfl (by repeat' first | exact trivial | refine ⟨?_, ?_⟩) (fun _ => ⟨by simp [V.flat, V.flatA, V.flatC, D.flat], (flat_cons (by simp [AObj.flat, V.flatC, D.flat]) flat_nil)⟩) ⟨rfl, rfl, rfl⟩
      · have h := if_bf h hb14
        refine any_skip 28 rfl rfl rfl ?_
        refine any_skip 29 rfl rfl rfl ?_
        refine any_skip 30 rfl rfl rfl ?_
        refine any_skip 31 rfl rfl rfl ?_
        refine any_skip 32 rfl rfl rfl ?_
        refine any_val hτ [] 33 rfl rfl rfl rfl rfl ?_
        refine any_val hτ [] 34 rfl rfl rfl rfl rfl ?_
        refine any_done mixed (by kernel_rfl) ?_
        refine aw_weak (weak_ofP [0] (l := [(4, .d (.bool false))]) (objs := [.box [.d (.int .i64 t_.A), .d (.int .i64 t_.B), .d (.cx .f32 t_.Own.re t_.Own.im), .d (.cx .f32 t_.Shared.re t_.Shared.im), .d (.int .i64 t_.Most)]]) rfl (by simp) rfl (by repeat' first | exact trivial | refine ⟨?_, ?_⟩) ⟨rfl, trivial, trivial⟩) ?_
        refine aw_ret ?_
        have hr := Option.some.inj h
        subst hr
        exact ret_objs (.inr rfl) [] (objs' := [.box [.d (.int .i64 t_.A), .d (.int .i64 t_.B), .d (.cx .f32 t_.Own.re t_.Own.im), .d (.cx .f32 t_.Shared.re t_.Shared.im), .d (.int .i64 t_.Most)]]) (new := []) rfl (by simp) (by simp) rfl (by repeat' first | exact trivial | refine ⟨?_, ?_⟩) rfl rfl (by repeat' first | exact trivial | refine ⟨?_, ?_⟩) (fun _ => ⟨by simp [V.flat, V.flatA, V.flatC, D.flat], (flat_cons (by simp [AObj.flat, V.flatC, D.flat]) flat_nil)⟩) ⟨rfl, rfl, rfl⟩
    · have h := if_bf h hb12
      refine any_skip 19 rfl rfl rfl ?_
      refine any_skip 20 rfl rfl rfl ?_
      refine any_skip 21 rfl rfl rfl ?_
      refine any_skip 22 rfl rfl rfl ?_
      refine any_skip 23 rfl rfl rfl ?_
      refine any_skip 24 rfl rfl rfl ?_
      refine any_skip 25 rfl rfl rfl ?_
      refine any_val hτ [] 26 rfl rfl rfl rfl rfl ?_
      refine any_val hτ [] 27 rfl rfl rfl rfl rfl ?_
      refine any_skip 28 rfl rfl rfl ?_
      refine any_skip 29 rfl rfl rfl ?_
      refine any_skip 30 rfl rfl rfl ?_
      refine any_skip 31 rfl rfl rfl ?_
      refine any_skip 32 rfl rfl rfl ?_
      refine any_val hτ [] 33 rfl rfl rfl rfl rfl ?_
      refine any_val hτ [] 34 rfl rfl rfl rfl rfl ?_
      refine any_done mixed (by kernel_rfl) ?_
      refine aw_weak (weak_ofP [0] (l := [(4, .d (.bool false))]) (objs := [.box [.d (.int .i64 t_.A), .d (.int .i64 t_.B), .d (.cx .f32 t_.Own.re t_.Own.im), .d (.cx .f32 t_.Shared.re t_.Shared.im), .d (.int .i64 t_.Most)]]) rfl (by simp) rfl (by repeat' first | exact trivial | refine ⟨?_, ?_⟩) ⟨rfl, trivial, trivial⟩) ?_
      refine aw_ret ?_
      have hr := Option.some.inj h
      subst hr
      exact ret_objs (.inr rfl) [] (objs' := [.box [.d (.int .i64 t_.A), .d (.int .i64 t_.B), .d (.cx .f32 t_.Own.re t_.Own.im), .d (.cx .f32 t_.Shared.re t_.Shared.im), .d (.int .i64 t_.Most)]]) (new := []) rfl (by simp) (by simp) rfl (by repeat' first | exact trivial | refine ⟨?_, ?_⟩) rfl rfl (by repeat' first | exact trivial | refine ⟨?_, ?_⟩) (fun _ => ⟨by simp [V.flat, V.flatA, V.flatC, D.flat], (flat_cons (by simp [AObj.flat, V.flatC, D.flat]) flat_nil)⟩) ⟨rfl, rfl, rfl⟩
  · have hb10 := not_f hb10
    have h := if_t h hb10
    refine any_skip 10 rfl rfl rfl ?_
    refine any_skip 11 rfl rfl rfl ?_
    refine any_skip 12 rfl rfl rfl ?_
    refine any_skip 13 rfl rfl rfl ?_
    refine any_skip 14 rfl rfl rfl ?_
    refine any_skip 15 rfl rfl rfl ?_
    refine any_skip 16 rfl rfl rfl ?_
    refine any_val hτ [] 17 rfl rfl rfl rfl rfl ?_
    refine any_val hτ [] 18 rfl rfl rfl rfl rfl ?_
    refine any_skip 19 rfl rfl rfl ?_
    refine any_skip 20 rfl rfl rfl ?_
    refine any_skip 21 rfl rfl rfl ?_
    refine any_skip 22 rfl rfl rfl ?_
    refine any_skip 23 rfl rfl rfl ?_
    refine any_skip 24 rfl rfl rfl ?_
    refine any_skip 25 rfl rfl rfl ?_
    refine any_val hτ [] 26 rfl rfl rfl rfl rfl ?_
    refine any_val hτ [] 27 rfl rfl rfl rfl rfl ?_
    refine any_skip 28 rfl rfl rfl ?_
    refine any_skip 29 rfl rfl rfl ?_
    refine any_skip 30 rfl rfl rfl ?_
    refine any_skip 31 rfl rfl rfl ?_
    refine any_skip 32 rfl rfl rfl ?_
    refine any_val hτ [] 33 rfl rfl rfl rfl rfl ?_
    refine any_val hτ [] 34 rfl rfl rfl rfl rfl ?_
    refine any_done mixed (by kernel_rfl) ?_
    refine aw_weak (weak_ofP [0] (l := [(4, .d (.bool false))]) (objs := [.box [.d (.int .i64 t_.A), .d (.int .i64 t_.B), .d (.cx .f32 t_.Own.re t_.Own.im), .d (.cx .f32 t_.Shared.re t_.Shared.im), .d (.int .i64 t_.Most)]]) rfl (by simp) rfl (by repeat' first | exact trivial | refine ⟨?_, ?_⟩) ⟨rfl, trivial, trivial⟩) ?_
    refine aw_ret ?_
    have hr := Option.some.inj h
    subst hr
    exact ret_objs (.inr rfl) [] (objs' := [.box [.d (.int .i64 t_.A), .d (.int .i64 t_.B), .d (.cx .f32 t_.Own.re t_.Own.im), .d (.cx .f32 t_.Shared.re t_.Shared.im), .d (.int .i64 t_.Most)]]) (new := []) rfl (by simp) (by simp) rfl (by repeat' first | exact trivial | refine ⟨?_, ?_⟩) rfl rfl (by repeat' first | exact trivial | refine ⟨?_, ?_⟩) (fun _ => ⟨by simp [V.flat, V.flatA, V.flatC, D.flat], (flat_cons (by simp [AObj.flat, V.flatC, D.flat]) flat_nil)⟩) ⟨rfl, rfl, rfl⟩
theorem impl_Tie_ok_ok (n : Nat) (t_ : STie) (buses_ : Int) {r : Bool} (h : m_impl_Tie_ok n t_ buses_ = some r) : ACall prog false 34 [.ptr 0 0, .d (.int .i64 buses_)] [.box [.d (.int .i64 t_.A), .d (.int .i64 t_.B), .d (.cx .f32 t_.Own.re t_.Own.im), .d (.cx .f32 t_.Shared.re t_.Shared.im), .d (.int .i64 t_.Most)]] (fun v o new => v = .d (.bool r) ∧ o = [.box [.d (.int .i64 t_.A), .d (.int .i64 t_.B), .d (.cx .f32 t_.Own.re t_.Own.im), .d (.cx .f32 t_.Shared.re t_.Shared.im), .d (.int .i64 t_.Most)]] ∧ new = []) := impl_Tie_ok_ok_fr0 false n t_ buses_ h
theorem impl_Tie_ok_ok_fr (n : Nat) (t_ : STie) (buses_ : Int) {r : Bool} (h : m_impl_Tie_ok n t_ buses_ = some r) : ACall prog true 34 [.ptr 0 0, .d (.int .i64 buses_)] [.box [.d (.int .i64 t_.A), .d (.int .i64 t_.B), .d (.cx .f32 t_.Own.re t_.Own.im), .d (.cx .f32 t_.Shared.re t_.Shared.im), .d (.int .i64 t_.Most)]] (fun v o new => v = .d (.bool r) ∧ o = [.box [.d (.int .i64 t_.A), .d (.int .i64 t_.B), .d (.cx .f32 t_.Own.re t_.Own.im), .d (.cx .f32 t_.Shared.re t_.Shared.im), .d (.int .i64 t_.Most)]] ∧ new = []) := impl_Tie_ok_ok_fr0 true n t_ buses_ h

def m_impl_ValidGrid_1 (n : Nat) (t_ : STie) (a1_ : Int) : Option Bool :=
  (m_impl_Tie_ok n t_ a1_).bind fun x2 =>
  some (!x2)
theorem impl_ValidGrid_1_ok_fr0 (fr : Bool) (n : Nat) (t_ : STie) (a1_ : Int) {r : Bool} (h : m_impl_ValidGrid_1 n t_ a1_ = some r) : ACall prog fr 33 [.agg [.d (.int .i64 t_.A), .d (.int .i64 t_.B), .d (.cx .f32 t_.Own.re t_.Own.im), .d (.cx .f32 t_.Shared.re t_.Shared.im), .d (.int .i64 t_.Most)], .ptr 0 0] [.box [.d (.int .i64 a1_)]] (fun v o new => v = .d (.bool r) ∧ o = [.box [.d (.int .i64 a1_)]] ∧ new = []) := by
  refine acall_of_aw hτ func33 rfl (by simp) (by simp) ?_
  unfold m_impl_ValidGrid_1 at h
  refine aw_seq ?_
  refine aw_region ?_
  refine awl_valH hτ rfl rfl rfl ?_
  refine awl_val hτ rfl rfl rfl ?_
  refine awl_nil ?_
  refine aw_seq ?_
  refine aw_region ?_
  refine awl_val hτ rfl rfl rfl ?_
  refine bnd_elim h fun x2 hx2 h => ?_
  refine awl_callP hτ false [1] rfl rfl rfl (enterOk func34 rfl rfl) rfl rfl (by simp) ⟨trivial, trivial, trivial⟩ (by repeat' first | exact trivial | refine ⟨?_, ?_⟩) (impl_Tie_ok_ok n t_ a1_ hx2) ?_
  rintro r0 o0 n0 ⟨rfl, rfl, rfl⟩ -
  refine awl_val hτ rfl rfl rfl ?_
  refine awl_val hτ rfl rfl rfl ?_
  refine awl_nil ?_
  refine aw_weak (weak_ofP [0] (l := [(3, .d (.bool (!x2)))]) (objs := [.box [.d (.int .i64 a1_)]]) rfl (by simp) rfl (by repeat' first | exact trivial | refine ⟨?_, ?_⟩) ⟨rfl, trivial, trivial⟩) ?_
  refine aw_ret ?_
  have hr := Option.some.inj h
  subst hr
  exact ret_objs (.inr rfl) [] (objs' := [.box [.d (.int .i64 a1_)]]) (new := []) rfl (by simp) (by simp) rfl (by repeat' first | exact trivial | refine ⟨?_, ?_⟩) rfl rfl (by repeat' first | exact trivial | refine ⟨?_, ?_⟩) (fun _ => ⟨by simp [V.flat, V.flatA, V.flatC, D.flat], (flat_cons (by simp [AObj.flat, V.flatC, D.flat]) flat_nil)⟩) ⟨rfl, rfl, rfl⟩
theorem impl_ValidGrid_1_ok (n : Nat) (t_ : STie) (a1_ : Int) {r : Bool} (h : m_impl_ValidGrid_1 n t_ a1_ = some r) : ACall prog false 33 [.agg [.d (.int .i64 t_.A), .d (.int .i64 t_.B), .d (.cx .f32 t_.Own.re t_.Own.im), .d (.cx .f32 t_.Shared.re t_.Shared.im), .d (.int .i64 t_.Most)], .ptr 0 0] [.box [.d (.int .i64 a1_)]] (fun v o new => v = .d (.bool r) ∧ o = [.box [.d (.int .i64 a1_)]] ∧ new = []) := impl_ValidGrid_1_ok_fr0 false n t_ a1_ h
theorem impl_ValidGrid_1_ok_fr (n : Nat) (t_ : STie) (a1_ : Int) {r : Bool} (h : m_impl_ValidGrid_1 n t_ a1_ = some r) : ACall prog true 33 [.agg [.d (.int .i64 t_.A), .d (.int .i64 t_.B), .d (.cx .f32 t_.Own.re t_.Own.im), .d (.cx .f32 t_.Shared.re t_.Shared.im), .d (.int .i64 t_.Most)], .ptr 0 0] [.box [.d (.int .i64 a1_)]] (fun v o new => v = .d (.bool r) ∧ o = [.box [.d (.int .i64 a1_)]] ∧ new = []) := impl_ValidGrid_1_ok_fr0 true n t_ a1_ h

def m_slices_IndexFunc_l1 (n : Nat) (s_ : List STie) (c_ : Int) : Nat → Int → Option Int
  | 0, _ => none
  | m13 + 1, v9 =>
    if v9 < (s_.length : Int) then
      (getI s_ v9).bind fun x18 =>
      (m_impl_ValidGrid_1 n x18 c_).bind fun x19 =>
      if x19 = true then
        some v9
      else
        (m_slices_IndexFunc_l1 n s_ c_ m13) (w64 (v9 + (1 : Int)))
    else
      some (-1 : Int)
def m_slices_IndexFunc (n : Nat) (s_ : List STie) (c_ : Int) : Option Int :=
  m_slices_IndexFunc_l1 n s_ c_ n (0 : Int)
theorem slices_IndexFunc_ok_fr0 (fr : Bool) (n : Nat) (s_ : List STie) (c_ : Int) {r : Int} (h : m_slices_IndexFunc n s_ c_ = some r) : ACall prog fr 65 [.d (.sl false (s_.map eSTie)), .func 33 [] [.ptr 0 0]] [.box [.d (.int .i64 c_)]] (fun v o new => v = .d (.int .i64 r) ∧ o = [.box [.d (.int .i64 c_)]] ∧ new = []) := by
  refine acall_of_aw hτ func65 rfl (by simp) (by simp) ?_
  unfold m_slices_IndexFunc at h
  refine aw_seq ?_
  refine aw_region ?_
  refine awl_val hτ rfl rfl rfl ?_
  refine awl_nil ?_
  refine aw_seq ?_
  refine aw_seq ?_
  refine aw_region ?_
  refine awl_val hτ rfl rfl rfl ?_
  refine awl_val hτ (v := .d (.int .i64 (s_.length : Int))) rfl rfl (Eq.trans rfl (or_len (f := eSTie) s_)) ?_
  refine awl_val hτ rfl rfl rfl ?_
  refine awl_nil ?_
  refine aw_block ?_
  refine aw_loop (ι := Nat × Int) (fun (m13, v9) => St.of [(0, .d (.sl false (s_.map eSTie))), (1, .func 33 [] [.ptr 0 0]), (7, .d (.int .i64 (s_.length : Int))), (8, .d (.int .i64 v9))] [.box [.d (.int .i64 c_)]] f65.ntmps 1) (fun (m13, v9) => m_slices_IndexFunc_l1 n s_ c_ m13 v9 = some r) (fun x => x.1) (n, (0 : Int)) h (weak_ofP [0] (l := [(0, .d (.sl false (s_.map eSTie))), (1, .func 33 [] [.ptr 0 0]), (7, .d (.int .i64 (s_.length : Int))), (8, .d (.int .i64 (0 : Int)))]) (objs := [.box [.d (.int .i64 c_)]]) rfl (by simp) rfl (by repeat' first | exact trivial | refine ⟨?_, ?_⟩) ⟨rfl, trivial, rfl, (by repeat' first | exact trivial | refine ⟨?_, ?_⟩), rfl, trivial, rfl, trivial, trivial⟩) ?_
  rintro ⟨m13, v9⟩ h
  replace h : m_slices_IndexFunc_l1 n s_ c_ m13 v9 = some r := h
  rcases m13 with _ | m13
  · rw [m_slices_IndexFunc_l1] at h; cases h
  rw [m_slices_IndexFunc_l1] at h
  refine aw_seq ?_
  refine aw_region ?_
  refine awl_val hτ rfl rfl rfl ?_
  refine awl_nil ?_
  refine aw_seq ?_
  refine aw_cond rfl (fun hc15 => ?_) (fun hc15 => ?_)
  · have h := if_t h hc15
    refine aw_skip ?_
    refine aw_seq ?_
    refine aw_block ?_
    refine aw_seq ?_
    refine aw_region ?_
    refine awl_val hτ rfl rfl rfl ?_
    refine awl_val hτ rfl rfl rfl ?_
    refine awl_nil ?_
    refine aw_seq ?_
    refine aw_region ?_
    refine awl_val hτ rfl rfl rfl ?_
    refine awl_val hτ rfl rfl rfl ?_
    refine awl_val hτ rfl rfl rfl ?_
    refine bnd_elim h fun x18 hx18 h => ?_
    refine awl_elem hτ rfl rfl rfl (getI_some hx18).1 (map_getI hx18) rfl ?_
    refine awl_val hτ rfl rfl rfl ?_
    refine bnd_elim h fun x19 hx19 h => ?_
    refine awl_callP hτ false [0] rfl rfl rfl (enterOk func33 rfl rfl) rfl rfl (by simp) ⟨(by repeat' first | exact trivial | refine ⟨?_, ?_⟩), trivial, trivial⟩ (by repeat' first | exact trivial | refine ⟨?_, ?_⟩) (impl_ValidGrid_1_ok n x18 c_ hx19) ?_
    rintro r0 o0 n0 ⟨rfl, rfl, rfl⟩ -
    refine awl_nil ?_
    refine aw_weak (weak_ofP [0] (l := [(0, .d (.sl false (s_.map eSTie))), (1, .func 33 [] [.ptr 0 0]), (5, .d (.int .i64 v9)), (7, .d (.int .i64 (s_.length : Int))), (8, .d (.int .i64 v9)), (16, .d (.bool x19))]) (objs := [.box [.d (.int .i64 c_)]]) rfl (by simp) rfl (by repeat' first | exact trivial | refine ⟨?_, ?_⟩) ⟨rfl, trivial, rfl, (by repeat' first | exact trivial | refine ⟨?_, ?_⟩), rfl, trivial, rfl, trivial, rfl, trivial, rfl, trivial, trivial⟩) ?_
    refine aw_cond rfl (fun hc20 => ?_) (fun hc20 => ?_)
    · have h := if_bt h hc20
      refine aw_seq ?_
      refine aw_region ?_
      refine awl_val hτ rfl rfl rfl ?_
      refine awl_val hτ rfl rfl rfl ?_
      refine awl_nil ?_
      refine aw_weak (weak_ofP [0] (l := [(4, .d (.int .i64 v9))]) (objs := [.box [.d (.int .i64 c_)]]) rfl (by simp) rfl (by repeat' first | exact trivial | refine ⟨?_, ?_⟩) ⟨rfl, trivial, trivial⟩) ?_
      refine aw_ret ?_
      have hr := Option.some.inj h
      subst hr
      exact ret_objs (.inr rfl) [] (objs' := [.box [.d (.int .i64 c_)]]) (new := []) rfl (by simp) (by simp) rfl (by repeat' first | exact trivial | refine ⟨?_, ?_⟩) rfl rfl (by repeat' first | exact trivial | refine ⟨?_, ?_⟩) (fun _ => ⟨by simp [V.flat, V.flatA, V.flatC, D.flat], (flat_cons (by simp [AObj.flat, V.flatC, D.flat]) flat_nil)⟩) ⟨rfl, rfl, rfl⟩
    · have h := if_bf h hc20
      refine aw_skip ?_
      refine aw_region ?_
      refine awl_val hτ rfl rfl rfl ?_
      refine awl_val hτ rfl rfl rfl ?_
      refine awl_nil ?_
      exact ⟨(m13, (w64 (v9 + (1 : Int)))), h, Nat.lt_succ_self m13, (weak_ofP [0] (l := [(0, .d (.sl false (s_.map eSTie))), (1, .func 33 [] [.ptr 0 0]), (7, .d (.int .i64 (s_.length : Int))), (8, .d (.int .i64 (w64 (v9 + (1 : Int)))))]) (objs := [.box [.d (.int .i64 c_)]]) rfl (by simp) rfl (by repeat' first | exact trivial | refine ⟨?_, ?_⟩) ⟨rfl, trivial, rfl, (by repeat' first | exact trivial | refine ⟨?_, ?_⟩), rfl, trivial, rfl, trivial, trivial⟩)⟩
  · have h := if_f h hc15
    refine aw_exit ?_
    refine aw_seq ?_
    refine aw_region ?_
    refine awl_val hτ rfl rfl rfl ?_
    refine awl_nil ?_
    refine aw_weak (weak_ofP [0] (l := [(4, .d (.int .i64 (-1 : Int)))]) (objs := [.box [.d (.int .i64 c_)]]) rfl (by simp) rfl (by repeat' first | exact trivial | refine ⟨?_, ?_⟩) ⟨rfl, trivial, trivial⟩) ?_
    refine aw_ret ?_
    have hr := Option.some.inj h
    subst hr
    exact ret_objs (.inr rfl) [] (objs' := [.box [.d (.int .i64 c_)]]) (new := []) rfl (by simp) (by simp) rfl (by repeat' first | exact trivial | refine ⟨?_, ?_⟩) rfl rfl (by repeat' first | exact trivial | refine ⟨?_, ?_⟩) (fun _ => ⟨by simp [V.flat, V.flatA, V.flatC, D.flat], (flat_cons (by simp [AObj.flat, V.flatC, D.flat]) flat_nil)⟩) ⟨rfl, rfl, rfl⟩
theorem slices_IndexFunc_ok (n : Nat) (s_ : List STie) (c_ : Int) {r : Int} (h : m_slices_IndexFunc n s_ c_ = some r) : ACall prog false 65 [.d (.sl false (s_.map eSTie)), .func 33 [] [.ptr 0 0]] [.box [.d (.int .i64 c_)]] (fun v o new => v = .d (.int .i64 r) ∧ o = [.box [.d (.int .i64 c_)]] ∧ new = []) := slices_IndexFunc_ok_fr0 false n s_ c_ h
theorem slices_IndexFunc_ok_fr (n : Nat) (s_ : List STie) (c_ : Int) {r : Int} (h : m_slices_IndexFunc n s_ c_ = some r) : ACall prog true 65 [.d (.sl false (s_.map eSTie)), .func 33 [] [.ptr 0 0]] [.box [.d (.int .i64 c_)]] (fun v o new => v = .d (.int .i64 r) ∧ o = [.box [.d (.int .i64 c_)]] ∧ new = []) := slices_IndexFunc_ok_fr0 true n s_ c_ h

def m_slices_ContainsFunc (n : Nat) (s_ : List STie) (c_ : Int) : Option Bool :=
  (m_slices_IndexFunc n s_ c_).bind fun x2 =>
  some (decide (x2 ≥ (0 : Int)))
theorem slices_ContainsFunc_ok_fr0 (fr : Bool) (n : Nat) (s_ : List STie) (c_ : Int) {r : Bool} (h : m_slices_ContainsFunc n s_ c_ = some r) : ACall prog fr 32 [.d (.sl false (s_.map eSTie)), .func 33 [] [.ptr 0 0]] [.box [.d (.int .i64 c_)]] (fun v o new => v = .d (.bool r) ∧ o = [.box [.d (.int .i64 c_)]] ∧ new = []) := by
  refine acall_of_aw hτ func32 rfl (by simp) (by simp) ?_
  unfold m_slices_ContainsFunc at h
  refine aw_seq ?_
  refine aw_region ?_
  refine awl_val hτ rfl rfl rfl ?_
  refine awl_nil ?_
  refine aw_seq ?_
  refine aw_region ?_
  refine awl_val hτ rfl rfl rfl ?_
  refine awl_val hτ rfl rfl rfl ?_
  refine bnd_elim h fun x2 hx2 h => ?_
  refine awl_callP hτ false [0] rfl rfl rfl (enterOk func65 rfl rfl) rfl rfl (by simp) ⟨trivial, (by repeat' first | exact trivial | refine ⟨?_, ?_⟩), trivial⟩ (by repeat' first | exact trivial | refine ⟨?_, ?_⟩) (slices_IndexFunc_ok n s_ c_ hx2) ?_
  rintro r0 o0 n0 ⟨rfl, rfl, rfl⟩ -
  refine awl_val hτ rfl rfl rfl ?_
  refine awl_val hτ rfl rfl rfl ?_
  refine awl_nil ?_
  refine aw_weak (weak_ofP [0] (l := [(4, .d (.bool (decide (x2 ≥ (0 : Int)))))]) (objs := [.box [.d (.int .i64 c_)]]) rfl (by simp) rfl (by repeat' first | exact trivial | refine ⟨?_, ?_⟩) ⟨rfl, trivial, trivial⟩) ?_
  refine aw_ret ?_
  have hr := Option.some.inj h
  subst hr
  exact ret_objs (.inr rfl) [] (objs' := [.box [.d (.int .i64 c_)]]) (new := []) rfl (by simp) (by simp) rfl (by repeat' first | exact trivial | refine ⟨?_, ?_⟩) rfl rfl (by repeat' first | exact trivial | refine ⟨?_, ?_⟩) (fun _ => ⟨by simp [V.flat, V.flatA, V.flatC, D.flat], (flat_cons (by simp [AObj.flat, V.flatC, D.flat]) flat_nil)⟩) ⟨rfl, rfl, rfl⟩
theorem slices_ContainsFunc_ok (n : Nat) (s_ : List STie) (c_ : Int) {r : Bool} (h : m_slices_ContainsFunc n s_ c_ = some r) : ACall prog false 32 [.d (.sl false (s_.map eSTie)), .func 33 [] [.ptr 0 0]] [.box [.d (.int .i64 c_)]] (fun v o new => v = .d (.bool r) ∧ o = [.box [.d (.int .i64 c_)]] ∧ new = []) := slices_ContainsFunc_ok_fr0 false n s_ c_ h
theorem slices_ContainsFunc_ok_fr (n : Nat) (s_ : List STie) (c_ : Int) {r : Bool} (h : m_slices_ContainsFunc n s_ c_ = some r) : ACall prog true 32 [.d (.sl false (s_.map eSTie)), .func 33 [] [.ptr 0 0]] [.box [.d (.int .i64 c_)]] (fun v o new => v = .d (.bool r) ∧ o = [.box [.d (.int .i64 c_)]] ∧ new = []) := slices_ContainsFunc_ok_fr0 true n s_ c_ h

def m_impl_ValidGrid (n : Nat) (g_ : SGrid) : Option Bool :=
  (m_impl_ValidFeeder n g_.Feeder).bind fun x7 =>
  if x7 = true then
    if (g_.Ties.length : Int) ≤ (6 : Int) then
      (m_slices_ContainsFunc n g_.Ties (g_.Feeder.Buses.length : Int)).bind fun x10 =>
      some (!x10)
    else
      some false
  else
    some false
theorem impl_ValidGrid_ok_fr0 (fr : Bool) (n : Nat) (g_ : SGrid) {r : Bool} (h : m_impl_ValidGrid n g_ = some r) : ACall prog fr 9 [.agg [.d (.cx .f32 g_.Feeder.Source.A.re g_.Feeder.Source.A.im), .d (.cx .f32 g_.Feeder.Source.B.re g_.Feeder.Source.B.im), .d (.cx .f32 g_.Feeder.Source.C.re g_.Feeder.Source.C.im), .d (.sl false (g_.Feeder.Buses.map eSBus)), .d (.sl false (g_.Ties.map eSTie))]] [] (fun v o new => v = .d (.bool r) ∧ o = [] ∧ new = []) := by
  refine acall_of_aw hτ func9 rfl (by simp) (by simp) ?_
  unfold m_impl_ValidGrid at h
  refine aw_seq ?_
  refine aw_region ?_
  refine awl_valH hτ rfl rfl rfl ?_
  refine awl_val hτ rfl rfl rfl ?_
  refine awl_nil ?_
  refine aw_seq ?_
  refine aw_region ?_
  refine awl_val hτ rfl rfl rfl ?_
  refine awl_val hτ rfl rfl rfl ?_
  refine awl_val hτ rfl rfl rfl ?_
  refine awl_val hτ (v := .d (.int .i64 (g_.Feeder.Buses.length : Int))) rfl rfl (Eq.trans rfl (or_len (f := eSBus) g_.Feeder.Buses)) ?_
  refine awl_valH hτ rfl rfl rfl ?_
  refine awl_valH hτ rfl rfl rfl ?_
  refine awl_nil ?_
  refine aw_seq ?_
  refine aw_weak (weak_ofP [0, 1] (l := [(1, .ptr 0 0), (3, .ptr 1 0)]) (objs := [.box [.d (.cx .f32 g_.Feeder.Source.A.re g_.Feeder.Source.A.im), .d (.cx .f32 g_.Feeder.Source.B.re g_.Feeder.Source.B.im), .d (.cx .f32 g_.Feeder.Source.C.re g_.Feeder.Source.C.im), .d (.sl false (g_.Feeder.Buses.map eSBus)), .d (.sl false (g_.Ties.map eSTie))], .box [.d (.int .i64 (g_.Feeder.Buses.length : Int))]]) rfl (by simp) rfl (by repeat' first | exact trivial | refine ⟨?_, ?_⟩) ⟨rfl, trivial, rfl, trivial, trivial⟩) ?_
  refine aw_region ?_
  refine awl_val hτ rfl rfl rfl ?_
  refine awl_val hτ rfl rfl rfl ?_
  refine bnd_elim h fun x7 hx7 h => ?_
  refine awl_callP hτ false [] rfl rfl rfl (enterOk func31 rfl rfl) rfl rfl (by simp) ⟨(by repeat' first | exact trivial | refine ⟨?_, ?_⟩), trivial⟩ (by repeat' first | exact trivial | refine ⟨?_, ?_⟩) (impl_ValidFeeder_ok n g_.Feeder hx7) ?_
  rintro r0 o0 n0 ⟨rfl, rfl, rfl⟩ -
  refine awl_val hτ rfl rfl rfl ?_
  refine awl_split 11 rfl (fun hb8 => ?_) (fun hb8 => ?_)
  · have h := if_bt h hb8
    refine awl_val hτ rfl rfl rfl ?_
    refine awl_val hτ rfl rfl rfl ?_
    refine awl_val hτ (v := .d (.int .i64 (g_.Ties.length : Int))) rfl rfl (Eq.trans rfl (or_len (f := eSTie) g_.Ties)) ?_
    refine awl_val hτ rfl rfl rfl ?_
    refine awl_val hτ rfl rfl rfl ?_
    refine awl_val hτ rfl rfl rfl ?_
    refine awl_split 17 rfl (fun hb9 => ?_) (fun hb9 => ?_)
    · have h := if_t h hb9
      refine awl_val hτ rfl rfl rfl ?_
      refine awl_val hτ rfl rfl rfl ?_
      refine awl_weak (weak_ofP [1] (l := [(3, .ptr 0 0), (17, .d (.bool true)), (19, .d (.sl false (g_.Ties.map eSTie)))]) (objs := [.box [.d (.int .i64 (g_.Feeder.Buses.length : Int))]]) rfl (by simp) rfl (by repeat' first | exact trivial | refine ⟨?_, ?_⟩) ⟨rfl, trivial, rfl, trivial, rfl, trivial, trivial⟩) ?_
      refine awl_val hτ rfl rfl rfl ?_
      refine bnd_elim h fun x10 hx10 h => ?_
      refine awl_callP hτ false [0] rfl rfl rfl (enterOk func32 rfl rfl) rfl rfl (by simp) ⟨trivial, (by repeat' first | exact trivial | refine ⟨?_, ?_⟩), trivial⟩ (by repeat' first | exact trivial | refine ⟨?_, ?_⟩) (slices_ContainsFunc_ok n g_.Ties (g_.Feeder.Buses.length : Int) hx10) ?_
      rintro r0 o0 n0 ⟨rfl, rfl, rfl⟩ -
      refine awl_val hτ rfl rfl rfl ?_
      refine awl_val hτ rfl rfl rfl ?_
      refine awl_val hτ rfl rfl rfl ?_
      refine awl_nil ?_
      refine aw_weak (weak_ofP [] (l := [(2, .d (.bool (!x10)))]) (objs := []) rfl (by simp) rfl (by repeat' first | exact trivial | refine ⟨?_, ?_⟩) ⟨rfl, trivial, trivial⟩) ?_
      refine aw_ret ?_
      have hr := Option.some.inj h
      subst hr
      exact ret_objs (.inr rfl) [] (objs' := []) (new := []) rfl (by simp) (by simp) rfl (by repeat' first | exact trivial | refine ⟨?_, ?_⟩) rfl rfl (by repeat' first | exact trivial | refine ⟨?_, ?_⟩) (fun _ => ⟨by simp [V.flat, V.flatA, V.flatC, D.flat], flat_nil⟩) ⟨rfl, rfl, rfl⟩
    · have h := if_f h hb9
      refine awl_skip rfl rfl ?_
      refine awl_skip rfl rfl ?_
      refine awl_weak (weak_ofP [1] (l := [(3, .ptr 0 0), (17, .d (.bool false)), (19, .und)]) (objs := [.box [.d (.int .i64 (g_.Feeder.Buses.length : Int))]]) rfl (by simp) rfl (by repeat' first | exact trivial | refine ⟨?_, ?_⟩) ⟨rfl, trivial, rfl, trivial, rfl, trivial, trivial⟩) ?_
      refine awl_skip rfl rfl ?_
      refine awl_skip rfl rfl ?_
      refine awl_skip rfl rfl ?_
      refine awl_val hτ rfl rfl rfl ?_
      refine awl_val hτ rfl rfl rfl ?_
      refine awl_nil ?_
      refine aw_weak (weak_ofP [] (l := [(2, .d (.bool false))]) (objs := []) rfl (by simp) rfl (by repeat' first | exact trivial | refine ⟨?_, ?_⟩) ⟨rfl, trivial, trivial⟩) ?_
      refine aw_ret ?_
      have hr := Option.some.inj h
      subst hr
      exact ret_objs (.inr rfl) [] (objs' := []) (new := []) rfl (by simp) (by simp) rfl (by repeat' first | exact trivial | refine ⟨?_, ?_⟩) rfl rfl (by repeat' first | exact trivial | refine ⟨?_, ?_⟩) (fun _ => ⟨by simp [V.flat, V.flatA, V.flatC, D.flat], flat_nil⟩) ⟨rfl, rfl, rfl⟩
  · have h := if_bf h hb8
    refine awl_skip rfl rfl ?_
    refine awl_skip rfl rfl ?_
    refine awl_skip rfl rfl ?_
    refine awl_skip rfl rfl ?_
    refine awl_val hτ rfl rfl rfl ?_
    refine awl_val hτ rfl rfl rfl ?_
    refine awl_skip rfl rfl ?_
    refine awl_skip rfl rfl ?_
    refine awl_weak (weak_ofP [1] (l := [(3, .ptr 0 0), (17, .d (.bool false)), (19, .und)]) (objs := [.box [.d (.int .i64 (g_.Feeder.Buses.length : Int))]]) rfl (by simp) rfl (by repeat' first | exact trivial | refine ⟨?_, ?_⟩) ⟨rfl, trivial, rfl, trivial, rfl, trivial, trivial⟩) ?_
    refine awl_skip rfl rfl ?_
    refine awl_skip rfl rfl ?_
    refine awl_skip rfl rfl ?_
    refine awl_val hτ rfl rfl rfl ?_
    refine awl_val hτ rfl rfl rfl ?_
    refine awl_nil ?_
    refine aw_weak (weak_ofP [] (l := [(2, .d (.bool false))]) (objs := []) rfl (by simp) rfl (by repeat' first | exact trivial | refine ⟨?_, ?_⟩) ⟨rfl, trivial, trivial⟩) ?_
    refine aw_ret ?_
    have hr := Option.some.inj h
    subst hr
    exact ret_objs (.inr rfl) [] (objs' := []) (new := []) rfl (by simp) (by simp) rfl (by repeat' first | exact trivial | refine ⟨?_, ?_⟩) rfl rfl (by repeat' first | exact trivial | refine ⟨?_, ?_⟩) (fun _ => ⟨by simp [V.flat, V.flatA, V.flatC, D.flat], flat_nil⟩) ⟨rfl, rfl, rfl⟩
theorem impl_ValidGrid_ok (n : Nat) (g_ : SGrid) {r : Bool} (h : m_impl_ValidGrid n g_ = some r) : ACall prog false 9 [.agg [.d (.cx .f32 g_.Feeder.Source.A.re g_.Feeder.Source.A.im), .d (.cx .f32 g_.Feeder.Source.B.re g_.Feeder.Source.B.im), .d (.cx .f32 g_.Feeder.Source.C.re g_.Feeder.Source.C.im), .d (.sl false (g_.Feeder.Buses.map eSBus)), .d (.sl false (g_.Ties.map eSTie))]] [] (fun v o new => v = .d (.bool r) ∧ o = [] ∧ new = []) := impl_ValidGrid_ok_fr0 false n g_ h
theorem impl_ValidGrid_ok_fr (n : Nat) (g_ : SGrid) {r : Bool} (h : m_impl_ValidGrid n g_ = some r) : ACall prog true 9 [.agg [.d (.cx .f32 g_.Feeder.Source.A.re g_.Feeder.Source.A.im), .d (.cx .f32 g_.Feeder.Source.B.re g_.Feeder.Source.B.im), .d (.cx .f32 g_.Feeder.Source.C.re g_.Feeder.Source.C.im), .d (.sl false (g_.Feeder.Buses.map eSBus)), .d (.sl false (g_.Ties.map eSTie))]] [] (fun v o new => v = .d (.bool r) ∧ o = [] ∧ new = []) := impl_ValidGrid_ok_fr0 true n g_ h

def m_laws_r8At_j1 (n : Nat) (code_ : List Int) (k_ : Int) (n_ : Int) : Option Int :=
  (getI code_ k_).bind fun x7 =>
  grd (n_ ≠ 0) <|
  some ((w64 (x7)).tmod n_)
def m_laws_r8At_j2 (n : Nat) (code_ : List Int) (k_ : Int) (n_ : Int) (v12 : Bool) : Option Int :=
  if v12 = true then
    some (0 : Int)
  else
    m_laws_r8At_j1 n code_ k_ n_
def m_laws_r8At (n : Nat) (code_ : List Int) (k_ : Int) (n_ : Int) : Option Int :=
  if n_ ≤ (1 : Int) then
    m_laws_r8At_j2 n code_ k_ n_ true
  else
    m_laws_r8At_j2 n code_ k_ n_ (decide (k_ ≥ (code_.length : Int)))
theorem laws_r8At_ok_fr0 (fr : Bool) (n : Nat) (code_ : List Int) (k_ : Int) (n_ : Int) {r : Int} (h : m_laws_r8At n code_ k_ n_ = some r) : ACall prog fr 10 [.d (.sl false (code_.map eIntu8)), .d (.int .i64 k_), .d (.int .i64 n_)] [] (fun v o new => v = .d (.int .i64 r) ∧ o = [] ∧ new = []) := by
  refine acall_of_aw hτ func10 rfl (by simp) (by simp) ?_
  unfold m_laws_r8At at h
  refine aw_seq ?_
  refine aw_region ?_
  refine awl_val hτ rfl rfl rfl ?_
  refine awl_nil ?_
  refine aw_hk1 (ι := Unit) (fun _ => St.of [(0, .d (.sl false (code_.map eIntu8))), (1, .d (.int .i64 k_)), (2, .d (.int .i64 n_))] [] f10.ntmps 0) (fun _ => m_laws_r8At_j1 n code_ k_ n_ = some r) ?_ (fun hk9 => ?_)
  · rintro ⟨⟩ h
    replace h : m_laws_r8At_j1 n code_ k_ n_ = some r := h
    unfold m_laws_r8At_j1 at h
    refine aw_seq ?_
    refine aw_region ?_
    refine awl_val hτ rfl rfl rfl ?_
    refine awl_val hτ rfl rfl rfl ?_
    refine bnd_elim h fun x7 hx7 h => ?_
    refine awl_elem hτ rfl rfl rfl (getI_some hx7).1 (map_getI hx7) rfl ?_
    refine awl_val hτ rfl rfl rfl ?_
    refine awl_val hτ rfl rfl rfl ?_
    refine awl_val hτ rfl rfl rfl ?_
    refine grd_elim h fun hg8 h => ?_
    refine awl_need hτ rfl rfl rfl hg8 ?_
    refine awl_val hτ rfl rfl rfl ?_
    refine awl_nil ?_
    refine aw_weak (weak_ofP [] (l := [(6, .d (.int .i64 ((w64 (x7)).tmod n_)))]) (objs := []) rfl (by simp) rfl (by repeat' first | exact trivial | refine ⟨?_, ?_⟩) ⟨rfl, trivial, trivial⟩) ?_
    refine aw_ret ?_
    have hr := Option.some.inj h
    subst hr
    exact ret_objs (.inr rfl) [] (objs' := []) (new := []) rfl (by simp) (by simp) rfl (by repeat' first | exact trivial | refine ⟨?_, ?_⟩) rfl rfl (by repeat' first | exact trivial | refine ⟨?_, ?_⟩) (fun _ => ⟨by simp [V.flat, V.flatA, V.flatC, D.flat], flat_nil⟩) ⟨rfl, rfl, rfl⟩
  · refine aw_seq ?_
    refine aw_hk1 (ι := Bool) (fun v12 => St.of [(0, .d (.sl false (code_.map eIntu8))), (1, .d (.int .i64 k_)), (2, .d (.int .i64 n_)), (14, .d (.bool v12))] [] f10.ntmps 0) (fun v12 => m_laws_r8At_j2 n code_ k_ n_ v12 = some r) ?_ (fun hk14 => ?_)
    · rintro v12 h
      replace h : m_laws_r8At_j2 n code_ k_ n_ v12 = some r := h
      unfold m_laws_r8At_j2 at h
      refine aw_cond rfl (fun hc13 => ?_) (fun hc13 => ?_)
      · have h := if_bt h hc13
        refine aw_seq ?_
        refine aw_region ?_
        refine awl_val hτ rfl rfl rfl ?_
        refine awl_nil ?_
        refine aw_weak (weak_ofP [] (l := [(6, .d (.int .i64 (0 : Int)))]) (objs := []) rfl (by simp) rfl (by repeat' first | exact trivial | refine ⟨?_, ?_⟩) ⟨rfl, trivial, trivial⟩) ?_
        refine aw_ret ?_
        have hr := Option.some.inj h
        subst hr
        exact ret_objs (.inr rfl) [] (objs' := []) (new := []) rfl (by simp) (by simp) rfl (by repeat' first | exact trivial | refine ⟨?_, ?_⟩) rfl rfl (by repeat' first | exact trivial | refine ⟨?_, ?_⟩) (fun _ => ⟨by simp [V.flat, V.flatA, V.flatC, D.flat], flat_nil⟩) ⟨rfl, rfl, rfl⟩
      · have h := if_bf h hc13
        refine aw_skip ?_
        refine aw_weak (weak_ofP [] (l := [(0, .d (.sl false (code_.map eIntu8))), (1, .d (.int .i64 k_)), (2, .d (.int .i64 n_))]) (objs := []) rfl (by simp) rfl (by repeat' first | exact trivial | refine ⟨?_, ?_⟩) ⟨rfl, trivial, rfl, trivial, rfl, trivial, trivial⟩) ?_
        exact hk9 () h
    · refine aw_seq ?_
      refine aw_region ?_
      refine awl_val hτ rfl rfl rfl ?_
      refine awl_val hτ rfl rfl rfl ?_
      refine awl_val hτ rfl rfl rfl ?_
      refine awl_split 9 rfl (fun hb15 => ?_) (fun hb15 => ?_)
      · have h := if_t h hb15
        refine awl_skip rfl rfl ?_
        refine awl_skip rfl rfl ?_
        refine awl_skip rfl rfl ?_
        refine awl_skip rfl rfl ?_
        refine awl_val hτ rfl rfl rfl ?_
        refine awl_nil ?_
        refine aw_weak (weak_ofP [] (l := [(0, .d (.sl false (code_.map eIntu8))), (1, .d (.int .i64 k_)), (2, .d (.int .i64 n_)), (14, .d (.bool true))]) (objs := []) rfl (by simp) rfl (by repeat' first | exact trivial | refine ⟨?_, ?_⟩) ⟨rfl, trivial, rfl, trivial, rfl, trivial, rfl, trivial, trivial⟩) ?_
        exact hk14 true h
      · have h := if_f h hb15
        refine awl_val hτ rfl rfl rfl ?_
        refine awl_val hτ rfl rfl rfl ?_
        refine awl_val hτ (v := .d (.int .i64 (code_.length : Int))) rfl rfl (Eq.trans rfl (or_len (f := eIntu8) code_)) ?_
        refine awl_val hτ rfl rfl rfl ?_
        refine awl_val hτ rfl rfl rfl ?_
        refine awl_nil ?_
        refine aw_weak (weak_ofP [] (l := [(0, .d (.sl false (code_.map eIntu8))), (1, .d (.int .i64 k_)), (2, .d (.int .i64 n_)), (14, .d (.bool (decide (k_ ≥ (code_.length : Int)))))]) (objs := []) rfl (by simp) rfl (by repeat' first | exact trivial | refine ⟨?_, ?_⟩) ⟨rfl, trivial, rfl, trivial, rfl, trivial, rfl, trivial, trivial⟩) ?_
        exact hk14 (decide (k_ ≥ (code_.length : Int))) h
theorem laws_r8At_ok (n : Nat) (code_ : List Int) (k_ : Int) (n_ : Int) {r : Int} (h : m_laws_r8At n code_ k_ n_ = some r) : ACall prog false 10 [.d (.sl false (code_.map eIntu8)), .d (.int .i64 k_), .d (.int .i64 n_)] [] (fun v o new => v = .d (.int .i64 r) ∧ o = [] ∧ new = []) := laws_r8At_ok_fr0 false n code_ k_ n_ h
theorem laws_r8At_ok_fr (n : Nat) (code_ : List Int) (k_ : Int) (n_ : Int) {r : Int} (h : m_laws_r8At n code_ k_ n_ = some r) : ACall prog true 10 [.d (.sl false (code_.map eIntu8)), .d (.int .i64 k_), .d (.int .i64 n_)] [] (fun v o new => v = .d (.int .i64 r) ∧ o = [] ∧ new = []) := laws_r8At_ok_fr0 true n code_ k_ n_ h

def m_impl_Grid_failing (n : Nat) (g_ : SGrid) (bus_ : Int) : Option Bool :=
  (m_impl_ValidGrid n g_).bind fun x5 =>
  if x5 = true then
    (m_impl_in n bus_ (1 : Int) (w64 ((g_.Feeder.Buses.length : Int) - (1 : Int)))).bind fun x7 =>
    some x7
  else
    some false
theorem impl_Grid_failing_ok (n : Nat) (g_ : SGrid) (bus_ : Int) {r : Bool} (h : m_impl_Grid_failing n g_ bus_ = some r) : ACall prog false 35 [.ptr 0 0, .d (.int .i64 bus_)] [.box [.d (.cx .f32 g_.Feeder.Source.A.re g_.Feeder.Source.A.im), .d (.cx .f32 g_.Feeder.Source.B.re g_.Feeder.Source.B.im), .d (.cx .f32 g_.Feeder.Source.C.re g_.Feeder.Source.C.im), .d (.sl false (g_.Feeder.Buses.map eSBus)), .d (.sl false (g_.Ties.map eSTie))]] (fun v o new => v = .d (.bool r) ∧ o = [.box [.d (.cx .f32 g_.Feeder.Source.A.re g_.Feeder.Source.A.im), .d (.cx .f32 g_.Feeder.Source.B.re g_.Feeder.Source.B.im), .d (.cx .f32 g_.Feeder.Source.C.re g_.Feeder.Source.C.im), .d (.sl false (g_.Feeder.Buses.map eSBus)), .d (.sl false (g_.Ties.map eSTie))]] ∧ new = []) := by
  refine acall_of_aw hτ func35 rfl (by simp) (by simp) ?_
  unfold m_impl_Grid_failing at h
  refine aw_seq ?_
  refine aw_region ?_
  refine awl_val hτ rfl rfl rfl ?_
  refine awl_nil ?_
  refine aw_seq ?_
  refine aw_region ?_
  refine awl_val hτ rfl rfl rfl ?_
  refine awl_val hτ rfl rfl rfl ?_
  refine awl_val hτ rfl rfl rfl ?_
  refine bnd_elim h fun x5 hx5 h => ?_
  refine awl_callP hτ false [] rfl rfl rfl (enterOk func9 rfl rfl) rfl rfl (by simp) ⟨(by repeat' first | exact trivial | refine ⟨?_, ?_⟩), trivial⟩ (by repeat' first | exact trivial | refine ⟨?_, ?_⟩) (impl_ValidGrid_ok n g_ hx5) ?_
  rintro r0 o0 n0 ⟨rfl, rfl, rfl⟩ -
  refine awl_val hτ rfl rfl rfl ?_
  refine awl_split 9 rfl (fun hb6 => ?_) (fun hb6 => ?_)
  · have h := if_bt h hb6
    refine awl_val hτ rfl rfl rfl ?_
    refine awl_val hτ rfl rfl rfl ?_
    refine awl_val hτ rfl rfl rfl ?_
    refine awl_val hτ rfl rfl rfl ?_
    refine awl_val hτ rfl rfl rfl ?_
    refine awl_val hτ rfl rfl rfl ?_
    refine awl_weak (weak_ofP [0] (l := [(4, .d (.bool false)), (9, .d (.bool true)), (10, .d (.int .i64 bus_)), (15, .d (.sl false (g_.Feeder.Buses.map eSBus)))]) (objs := [.box [.d (.cx .f32 g_.Feeder.Source.A.re g_.Feeder.Source.A.im), .d (.cx .f32 g_.Feeder.Source.B.re g_.Feeder.Source.B.im), .d (.cx .f32 g_.Feeder.Source.C.re g_.Feeder.Source.C.im), .d (.sl false (g_.Feeder.Buses.map eSBus)), .d (.sl false (g_.Ties.map eSTie))]]) rfl (by simp) rfl (by repeat' first | exact trivial | refine ⟨?_, ?_⟩) ⟨rfl, trivial, rfl, trivial, rfl, trivial, rfl, trivial, trivial⟩) ?_
    refine awl_val hτ (v := .d (.int .i64 (g_.Feeder.Buses.length : Int))) rfl rfl (Eq.trans rfl (or_len (f := eSBus) g_.Feeder.Buses)) ?_
    refine awl_val hτ rfl rfl rfl ?_
    refine bnd_elim h fun x7 hx7 h => ?_
    refine awl_callP hτ false [] rfl rfl rfl (enterOk func64 rfl rfl) rfl rfl (by simp) ⟨trivial, trivial, trivial, trivial⟩ (by repeat' first | exact trivial | refine ⟨?_, ?_⟩) (impl_in_ok n bus_ (1 : Int) (w64 ((g_.Feeder.Buses.length : Int) - (1 : Int))) hx7) ?_
    rintro r0 o0 n0 ⟨rfl, rfl, rfl⟩ -
    refine awl_val hτ rfl rfl rfl ?_
    refine awl_val hτ rfl rfl rfl ?_
    refine awl_nil ?_
    refine aw_weak (weak_ofP [0] (l := [(4, .d (.bool x7))]) (objs := [.box [.d (.cx .f32 g_.Feeder.Source.A.re g_.Feeder.Source.A.im), .d (.cx .f32 g_.Feeder.Source.B.re g_.Feeder.Source.B.im), .d (.cx .f32 g_.Feeder.Source.C.re g_.Feeder.Source.C.im), .d (.sl false (g_.Feeder.Buses.map eSBus)), .d (.sl false (g_.Ties.map eSTie))]]) rfl (by simp) rfl (by repeat' first | exact trivial | refine ⟨?_, ?_⟩) ⟨rfl, trivial, trivial⟩) ?_
    refine aw_ret ?_
    have hr := Option.some.inj h
    subst hr
    exact ret_objs (.inr rfl) [] (objs' := [.box [.d (.cx .f32 g_.Feeder.Source.A.re g_.Feeder.Source.A.im), .d (.cx .f32 g_.Feeder.Source.B.re g_.Feeder.Source.B.im), .d (.cx .f32 g_.Feeder.Source.C.re g_.Feeder.Source.C.im), .d (.sl false (g_.Feeder.Buses.map eSBus)), .d (.sl false (g_.Ties.map eSTie))]]) (new := []) rfl (by simp) (by simp) rfl (by repeat' first | exact trivial | refine ⟨?_, ?_⟩) rfl rfl (by repeat' first | exact trivial | refine ⟨?_, ?_⟩) (fun h => nomatch h) ⟨rfl, rfl, rfl⟩
  · have h := if_bf h hb6
    refine awl_skip rfl rfl ?_
    refine awl_skip rfl rfl ?_
    refine awl_skip rfl rfl ?_
    refine awl_skip rfl rfl ?_
    refine awl_skip rfl rfl ?_
    refine awl_skip rfl rfl ?_
    refine awl_weak (weak_ofP [0] (l := [(4, .d (.bool false)), (9, .d (.bool false)), (10, .und), (15, .und)]) (objs := [.box [.d (.cx .f32 g_.Feeder.Source.A.re g_.Feeder.Source.A.im), .d (.cx .f32 g_.Feeder.Source.B.re g_.Feeder.Source.B.im), .d (.cx .f32 g_.Feeder.Source.C.re g_.Feeder.Source.C.im), .d (.sl false (g_.Feeder.Buses.map eSBus)), .d (.sl false (g_.Ties.map eSTie))]]) rfl (by simp) rfl (by repeat' first | exact trivial | refine ⟨?_, ?_⟩) ⟨rfl, trivial, rfl, trivial, rfl, trivial, rfl, trivial, trivial⟩) ?_
    refine awl_skip rfl rfl ?_
    refine awl_skip rfl rfl ?_
    refine awl_skip rfl rfl ?_
    refine awl_val hτ rfl rfl rfl ?_
    refine awl_val hτ rfl rfl rfl ?_
    refine awl_nil ?_
    refine aw_weak (weak_ofP [0] (l := [(4, .d (.bool false))]) (objs := [.box [.d (.cx .f32 g_.Feeder.Source.A.re g_.Feeder.Source.A.im), .d (.cx .f32 g_.Feeder.Source.B.re g_.Feeder.Source.B.im), .d (.cx .f32 g_.Feeder.Source.C.re g_.Feeder.Source.C.im), .d (.sl false (g_.Feeder.Buses.map eSBus)), .d (.sl false (g_.Ties.map eSTie))]]) rfl (by simp) rfl (by repeat' first | exact trivial | refine ⟨?_, ?_⟩) ⟨rfl, trivial, trivial⟩) ?_
    refine aw_ret ?_
    have hr := Option.some.inj h
    subst hr
    exact ret_objs (.inr rfl) [] (objs' := [.box [.d (.cx .f32 g_.Feeder.Source.A.re g_.Feeder.Source.A.im), .d (.cx .f32 g_.Feeder.Source.B.re g_.Feeder.Source.B.im), .d (.cx .f32 g_.Feeder.Source.C.re g_.Feeder.Source.C.im), .d (.sl false (g_.Feeder.Buses.map eSBus)), .d (.sl false (g_.Ties.map eSTie))]]) (new := []) rfl (by simp) (by simp) rfl (by repeat' first | exact trivial | refine ⟨?_, ?_⟩) rfl rfl (by repeat' first | exact trivial | refine ⟨?_, ?_⟩) (fun h => nomatch h) ⟨rfl, rfl, rfl⟩

def m_slices_Index_l1 (n : Nat) (s_ : List Int) (v_ : Int) : Nat → Int → Option Int
  | 0, _ => none
  | m9 + 1, v6 =>
    if v6 < (s_.length : Int) then
      (getI s_ v6).bind fun x13 =>
      if v_ = x13 then
        some v6
      else
        (m_slices_Index_l1 n s_ v_ m9) (w64 (v6 + (1 : Int)))
    else
      some (-1 : Int)
def m_slices_Index (n : Nat) (s_ : List Int) (v_ : Int) : Option Int :=
  m_slices_Index_l1 n s_ v_ n (0 : Int)
theorem slices_Index_ok_fr0 (fr : Bool) (n : Nat) (s_ : List Int) (v_ : Int) {r : Int} (h : m_slices_Index n s_ v_ = some r) : ACall prog fr 84 [.d (.sl false (s_.map eInti64)), .d (.int .i64 v_)] [] (fun v o new => v = .d (.int .i64 r) ∧ o = [] ∧ new = []) := by
  refine acall_of_aw hτ func84 rfl (by simp) (by simp) ?_
  unfold m_slices_Index at h
  refine aw_seq ?_
  refine aw_region ?_
  refine awl_val hτ rfl rfl rfl ?_
  refine awl_nil ?_
  refine aw_seq ?_
  refine aw_seq ?_
  refine aw_region ?_
  refine awl_val hτ rfl rfl rfl ?_
  refine awl_val hτ (v := .d (.int .i64 (s_.length : Int))) rfl rfl (Eq.trans rfl (or_len (f := eInti64) s_)) ?_
  refine awl_val hτ rfl rfl rfl ?_
  refine awl_nil ?_
  refine aw_block ?_
  refine aw_loop (ι := Nat × Int) (fun (m9, v6) => St.of [(0, .d (.sl false (s_.map eInti64))), (1, .d (.int .i64 v_)), (7, .d (.int .i64 (s_.length : Int))), (8, .d (.int .i64 v6))] [] f84.ntmps 0) (fun (m9, v6) => m_slices_Index_l1 n s_ v_ m9 v6 = some r) (fun x => x.1) (n, (0 : Int)) h (weak_ofP [] (l := [(0, .d (.sl false (s_.map eInti64))), (1, .d (.int .i64 v_)), (7, .d (.int .i64 (s_.length : Int))), (8, .d (.int .i64 (0 : Int)))]) (objs := []) rfl (by simp) rfl (by repeat' first | exact trivial | refine ⟨?_, ?_⟩) ⟨rfl, trivial, rfl, trivial, rfl, trivial, rfl, trivial, trivial⟩) ?_
  rintro ⟨m9, v6⟩ h
  replace h : m_slices_Index_l1 n s_ v_ m9 v6 = some r := h
  rcases m9 with _ | m9
  · rw [m_slices_Index_l1] at h; cases h
  rw [m_slices_Index_l1] at h
  refine aw_seq ?_
  refine aw_region ?_
  refine awl_val hτ rfl rfl rfl ?_
  refine awl_nil ?_
  refine aw_seq ?_
  refine aw_cond rfl (fun hc11 => ?_) (fun hc11 => ?_)
  · have h := if_t h hc11
    refine aw_skip ?_
    refine aw_seq ?_
    refine aw_block ?_
    refine aw_seq ?_
    refine aw_region ?_
    refine awl_val hτ rfl rfl rfl ?_
    refine awl_val hτ rfl rfl rfl ?_
    refine awl_nil ?_
    refine aw_seq ?_
    refine aw_region ?_
    refine awl_val hτ rfl rfl rfl ?_
    refine awl_val hτ rfl rfl rfl ?_
    refine awl_val hτ rfl rfl rfl ?_
    refine bnd_elim h fun x13 hx13 h => ?_
    refine awl_elem hτ rfl rfl rfl (getI_some hx13).1 (map_getI hx13) rfl ?_
    refine awl_val hτ rfl rfl rfl ?_
    refine awl_val hτ (v := .d (.bool (decide (v_ = x13)))) rfl rfl (or_ieq _ _) ?_
    refine awl_nil ?_
    refine aw_weak (weak_ofP [] (l := [(0, .d (.sl false (s_.map eInti64))), (1, .d (.int .i64 v_)), (5, .d (.int .i64 v6)), (7, .d (.int .i64 (s_.length : Int))), (8, .d (.int .i64 v6)), (16, .d (.bool (decide (v_ = x13))))]) (objs := []) rfl (by simp) rfl (by repeat' first | exact trivial | refine ⟨?_, ?_⟩) ⟨rfl, trivial, rfl, trivial, rfl, trivial, rfl, trivial, rfl, trivial, rfl, trivial, trivial⟩) ?_
    refine aw_cond rfl (fun hc14 => ?_) (fun hc14 => ?_)
    · have h := if_t h hc14
      refine aw_seq ?_
      refine aw_region ?_
      refine awl_val hτ rfl rfl rfl ?_
      refine awl_val hτ rfl rfl rfl ?_
      refine awl_nil ?_
      refine aw_weak (weak_ofP [] (l := [(4, .d (.int .i64 v6))]) (objs := []) rfl (by simp) rfl (by repeat' first | exact trivial | refine ⟨?_, ?_⟩) ⟨rfl, trivial, trivial⟩) ?_
      refine aw_ret ?_
      have hr := Option.some.inj h
      subst hr
      exact ret_objs (.inr rfl) [] (objs' := []) (new := []) rfl (by simp) (by simp) rfl (by repeat' first | exact trivial | refine ⟨?_, ?_⟩) rfl rfl (by repeat' first | exact trivial | refine ⟨?_, ?_⟩) (fun _ => ⟨by simp [V.flat, V.flatA, V.flatC, D.flat], flat_nil⟩) ⟨rfl, rfl, rfl⟩
    · have h := if_f h hc14
      refine aw_skip ?_
      refine aw_region ?_
      refine awl_val hτ rfl rfl rfl ?_
      refine awl_val hτ rfl rfl rfl ?_
      refine awl_nil ?_
      exact ⟨(m9, (w64 (v6 + (1 : Int)))), h, Nat.lt_succ_self m9, (weak_ofP [] (l := [(0, .d (.sl false (s_.map eInti64))), (1, .d (.int .i64 v_)), (7, .d (.int .i64 (s_.length : Int))), (8, .d (.int .i64 (w64 (v6 + (1 : Int)))))]) (objs := []) rfl (by simp) rfl (by repeat' first | exact trivial | refine ⟨?_, ?_⟩) ⟨rfl, trivial, rfl, trivial, rfl, trivial, rfl, trivial, trivial⟩)⟩
  · have h := if_f h hc11
    refine aw_exit ?_
    refine aw_seq ?_
    refine aw_region ?_
    refine awl_val hτ rfl rfl rfl ?_
    refine awl_nil ?_
    refine aw_weak (weak_ofP [] (l := [(4, .d (.int .i64 (-1 : Int)))]) (objs := []) rfl (by simp) rfl (by repeat' first | exact trivial | refine ⟨?_, ?_⟩) ⟨rfl, trivial, trivial⟩) ?_
    refine aw_ret ?_
    have hr := Option.some.inj h
    subst hr
    exact ret_objs (.inr rfl) [] (objs' := []) (new := []) rfl (by simp) (by simp) rfl (by repeat' first | exact trivial | refine ⟨?_, ?_⟩) rfl rfl (by repeat' first | exact trivial | refine ⟨?_, ?_⟩) (fun _ => ⟨by simp [V.flat, V.flatA, V.flatC, D.flat], flat_nil⟩) ⟨rfl, rfl, rfl⟩
theorem slices_Index_ok (n : Nat) (s_ : List Int) (v_ : Int) {r : Int} (h : m_slices_Index n s_ v_ = some r) : ACall prog false 84 [.d (.sl false (s_.map eInti64)), .d (.int .i64 v_)] [] (fun v o new => v = .d (.int .i64 r) ∧ o = [] ∧ new = []) := slices_Index_ok_fr0 false n s_ v_ h
theorem slices_Index_ok_fr (n : Nat) (s_ : List Int) (v_ : Int) {r : Int} (h : m_slices_Index n s_ v_ = some r) : ACall prog true 84 [.d (.sl false (s_.map eInti64)), .d (.int .i64 v_)] [] (fun v o new => v = .d (.int .i64 r) ∧ o = [] ∧ new = []) := slices_Index_ok_fr0 true n s_ v_ h

def m_slices_Contains (n : Nat) (s_ : List Int) (v_ : Int) : Option Bool :=
  (m_slices_Index n s_ v_).bind fun x2 =>
  some (decide (x2 ≥ (0 : Int)))
theorem slices_Contains_ok_fr0 (fr : Bool) (n : Nat) (s_ : List Int) (v_ : Int) {r : Bool} (h : m_slices_Contains n s_ v_ = some r) : ACall prog fr 66 [.d (.sl false (s_.map eInti64)), .d (.int .i64 v_)] [] (fun v o new => v = .d (.bool r) ∧ o = [] ∧ new = []) := by
  refine acall_of_aw hτ func66 rfl (by simp) (by simp) ?_
  unfold m_slices_Contains at h
  refine aw_seq ?_
  refine aw_region ?_
  refine awl_val hτ rfl rfl rfl ?_
  refine awl_nil ?_
  refine aw_seq ?_
  refine aw_region ?_
  refine awl_val hτ rfl rfl rfl ?_
  refine awl_val hτ rfl rfl rfl ?_
  refine bnd_elim h fun x2 hx2 h => ?_
  refine awl_callP hτ false [] rfl rfl rfl (enterOk func84 rfl rfl) rfl rfl (by simp) ⟨trivial, trivial, trivial⟩ (by repeat' first | exact trivial | refine ⟨?_, ?_⟩) (slices_Index_ok n s_ v_ hx2) ?_
  rintro r0 o0 n0 ⟨rfl, rfl, rfl⟩ -
  refine awl_val hτ rfl rfl rfl ?_
  refine awl_val hτ rfl rfl rfl ?_
  refine awl_nil ?_
  refine aw_weak (weak_ofP [] (l := [(4, .d (.bool (decide (x2 ≥ (0 : Int)))))]) (objs := []) rfl (by simp) rfl (by repeat' first | exact trivial | refine ⟨?_, ?_⟩) ⟨rfl, trivial, trivial⟩) ?_
  refine aw_ret ?_
  have hr := Option.some.inj h
  subst hr
  exact ret_objs (.inr rfl) [] (objs' := []) (new := []) rfl (by simp) (by simp) rfl (by repeat' first | exact trivial | refine ⟨?_, ?_⟩) rfl rfl (by repeat' first | exact trivial | refine ⟨?_, ?_⟩) (fun _ => ⟨by simp [V.flat, V.flatA, V.flatC, D.flat], flat_nil⟩) ⟨rfl, rfl, rfl⟩
theorem slices_Contains_ok (n : Nat) (s_ : List Int) (v_ : Int) {r : Bool} (h : m_slices_Contains n s_ v_ = some r) : ACall prog false 66 [.d (.sl false (s_.map eInti64)), .d (.int .i64 v_)] [] (fun v o new => v = .d (.bool r) ∧ o = [] ∧ new = []) := slices_Contains_ok_fr0 false n s_ v_ h
theorem slices_Contains_ok_fr (n : Nat) (s_ : List Int) (v_ : Int) {r : Bool} (h : m_slices_Contains n s_ v_ = some r) : ACall prog true 66 [.d (.sl false (s_.map eInti64)), .d (.int .i64 v_)] [] (fun v o new => v = .d (.bool r) ∧ o = [] ∧ new = []) := slices_Contains_ok_fr0 true n s_ v_ h

def m_impl_Feeder_below_j2 (n : Nat) (k26 : List Int → Int → Option (List Int)) (v18 : Int) (v32 : List Int) : Option (List Int) :=
  k26 v32 (w64 (v18 + (1 : Int)))
def m_impl_Feeder_below_l1 (n : Nat) (f_ : SGrid) : Nat → List Int → Int → Option (List Int)
  | 0, _, _ => none
  | m25 + 1, v17, v18 =>
    if v18 < (f_.Feeder.Buses.length : Int) then
      (getI f_.Feeder.Buses v18).bind fun x34 =>
      (m_slices_Contains n v17 x34.Parent).bind fun x35 =>
      if x35 = true then
        grd (room (v17.length + 1) 8) <|
        m_impl_Feeder_below_j2 n (m_impl_Feeder_below_l1 n f_ m25) v18 (v17 ++ [v18])
      else
        m_impl_Feeder_below_j2 n (m_impl_Feeder_below_l1 n f_ m25) v18 v17
    else
      some v17
def m_impl_Feeder_below (n : Nat) (f_ : SGrid) (bus_ : Int) : Option (List Int) :=
  m_impl_Feeder_below_l1 n f_ n [bus_] (w64 (bus_ + (1 : Int)))
theorem impl_Feeder_below_ok (n : Nat) (f_ : SGrid) (bus_ : Int) {r : List Int} (h : m_impl_Feeder_below n f_ bus_ = some r) : ACall prog false 36 [.ptr 0 0, .d (.int .i64 bus_)] [.box [.d (.cx .f32 f_.Feeder.Source.A.re f_.Feeder.Source.A.im), .d (.cx .f32 f_.Feeder.Source.B.re f_.Feeder.Source.B.im), .d (.cx .f32 f_.Feeder.Source.C.re f_.Feeder.Source.C.im), .d (.sl false (f_.Feeder.Buses.map eSBus)), .d (.sl false (f_.Ties.map eSTie))]] (fun v o new => v = .row 1 r.length 0 r.length ∧ o = [.box [.d (.cx .f32 f_.Feeder.Source.A.re f_.Feeder.Source.A.im), .d (.cx .f32 f_.Feeder.Source.B.re f_.Feeder.Source.B.im), .d (.cx .f32 f_.Feeder.Source.C.re f_.Feeder.Source.C.im), .d (.sl false (f_.Feeder.Buses.map eSBus)), .d (.sl false (f_.Ties.map eSTie))]] ∧ new = [.row 1 (r.map eInti64)]) := by
  refine acall_of_aw hτ func36 rfl (by simp) (by simp) ?_
  unfold m_impl_Feeder_below at h
  refine aw_seq ?_
  refine aw_region ?_
  refine awl_val hτ rfl rfl rfl ?_
  refine awl_nil ?_
  refine aw_seq ?_
  refine aw_region ?_
  refine awl_val hτ rfl rfl rfl ?_
  refine awl_valH hτ rfl rfl rfl ?_
  refine awl_val hτ rfl rfl rfl ?_
  refine awl_nil ?_
  refine aw_seq ?_
  refine aw_seq ?_
  refine aw_region ?_
  refine awl_val hτ rfl rfl rfl ?_
  refine awl_val hτ rfl rfl rfl ?_
  refine awl_val hτ rfl rfl rfl ?_
  refine awl_nil ?_
  refine aw_block ?_
  refine aw_loop (ι := Nat × List Int × Int) (fun (m25, v17, v18) => St.of [(0, .ptr 0 0), (5, .row 1 v17.length 0 v17.length), (6, .d (.int .i64 v18))] [.box [.d (.cx .f32 f_.Feeder.Source.A.re f_.Feeder.Source.A.im), .d (.cx .f32 f_.Feeder.Source.B.re f_.Feeder.Source.B.im), .d (.cx .f32 f_.Feeder.Source.C.re f_.Feeder.Source.C.im), .d (.sl false (f_.Feeder.Buses.map eSBus)), .d (.sl false (f_.Ties.map eSTie))], .row 1 (v17.map eInti64)] f36.ntmps 1) (fun (m25, v17, v18) => m_impl_Feeder_below_l1 n f_ m25 v17 v18 = some r) (fun x => x.1) (n, [bus_], (w64 (bus_ + (1 : Int)))) h (weak_ofP [0, 1] (l := [(0, .ptr 0 0), (5, .row 1 ([bus_].length) 0 ([bus_].length)), (6, .d (.int .i64 (w64 (bus_ + (1 : Int)))))]) (objs := [.box [.d (.cx .f32 f_.Feeder.Source.A.re f_.Feeder.Source.A.im), .d (.cx .f32 f_.Feeder.Source.B.re f_.Feeder.Source.B.im), .d (.cx .f32 f_.Feeder.Source.C.re f_.Feeder.Source.C.im), .d (.sl false (f_.Feeder.Buses.map eSBus)), .d (.sl false (f_.Ties.map eSTie))], .row 1 ([bus_].map eInti64)]) rfl (by simp) rfl (by repeat' first | exact trivial | refine ⟨?_, ?_⟩) ⟨rfl, trivial, rfl, trivial, rfl, trivial, trivial⟩) ?_
  rintro ⟨m25, v17, v18⟩ h
  replace h : m_impl_Feeder_below_l1 n f_ m25 v17 v18 = some r := h
  rcases m25 with _ | m25
  · rw [m_impl_Feeder_below_l1] at h; cases h
  rw [m_impl_Feeder_below_l1] at h
  refine aw_seq ?_
  refine aw_seq ?_
  refine aw_region ?_
  refine awl_val hτ rfl rfl rfl ?_
  refine awl_val hτ rfl rfl rfl ?_
  refine awl_val hτ rfl rfl rfl ?_
  refine awl_val hτ rfl rfl rfl ?_
  refine awl_val hτ rfl rfl rfl ?_
  refine awl_val hτ (v := .d (.int .i64 (f_.Feeder.Buses.length : Int))) rfl rfl (Eq.trans rfl (or_len (f := eSBus) f_.Feeder.Buses)) ?_
  refine awl_val hτ rfl rfl rfl ?_
  refine awl_nil ?_
  refine aw_weak (weak_ofP [0, 1] (l := [(0, .ptr 0 0), (5, .row 1 v17.length 0 v17.length), (6, .d (.int .i64 v18)), (17, .d (.bool (decide (v18 < (f_.Feeder.Buses.length : Int)))))]) (objs := [.box [.d (.cx .f32 f_.Feeder.Source.A.re f_.Feeder.Source.A.im), .d (.cx .f32 f_.Feeder.Source.B.re f_.Feeder.Source.B.im), .d (.cx .f32 f_.Feeder.Source.C.re f_.Feeder.Source.C.im), .d (.sl false (f_.Feeder.Buses.map eSBus)), .d (.sl false (f_.Ties.map eSTie))], .row 1 (v17.map eInti64)]) rfl (by simp) rfl (by repeat' first | exact trivial | refine ⟨?_, ?_⟩) ⟨rfl, trivial, rfl, trivial, rfl, trivial, rfl, trivial, trivial⟩) ?_
  refine aw_cond rfl (fun hc27 => ?_) (fun hc27 => ?_)
  · have h := if_t h hc27
    refine aw_skip ?_
    refine aw_hk1 (ι := List Int) (fun v32 => St.of [(0, .ptr 0 0), (5, .row 1 v32.length 0 v32.length), (6, .d (.int .i64 v18))] [.box [.d (.cx .f32 f_.Feeder.Source.A.re f_.Feeder.Source.A.im), .d (.cx .f32 f_.Feeder.Source.B.re f_.Feeder.Source.B.im), .d (.cx .f32 f_.Feeder.Source.C.re f_.Feeder.Source.C.im), .d (.sl false (f_.Feeder.Buses.map eSBus)), .d (.sl false (f_.Ties.map eSTie))], .row 1 (v32.map eInti64)] f36.ntmps 1) (fun v32 => m_impl_Feeder_below_j2 n (m_impl_Feeder_below_l1 n f_ m25) v18 v32 = some r) ?_ (fun hk33 => ?_)
    · rintro v32 h
      replace h : m_impl_Feeder_below_j2 n (m_impl_Feeder_below_l1 n f_ m25) v18 v32 = some r := h
      unfold m_impl_Feeder_below_j2 at h
      refine aw_region ?_
      refine awl_val hτ rfl rfl rfl ?_
      refine awl_val hτ rfl rfl rfl ?_
      refine awl_val hτ rfl rfl rfl ?_
      refine awl_nil ?_
      exact ⟨(m25, v32, (w64 (v18 + (1 : Int)))), h, Nat.lt_succ_self m25, (weak_ofP [0, 1] (l := [(0, .ptr 0 0), (5, .row 1 v32.length 0 v32.length), (6, .d (.int .i64 (w64 (v18 + (1 : Int)))))]) (objs := [.box [.d (.cx .f32 f_.Feeder.Source.A.re f_.Feeder.Source.A.im), .d (.cx .f32 f_.Feeder.Source.B.re f_.Feeder.Source.B.im), .d (.cx .f32 f_.Feeder.Source.C.re f_.Feeder.Source.C.im), .d (.sl false (f_.Feeder.Buses.map eSBus)), .d (.sl false (f_.Ties.map eSTie))], .row 1 (v32.map eInti64)]) rfl (by simp) rfl (by repeat' first | exact trivial | refine ⟨?_, ?_⟩) ⟨rfl, trivial, rfl, trivial, rfl, trivial, trivial⟩)⟩
    · refine aw_seq ?_
      refine aw_block ?_
      refine aw_seq ?_
      refine aw_region ?_
      refine awl_val hτ rfl rfl rfl ?_
      refine awl_val hτ rfl rfl rfl ?_
      refine awl_val hτ rfl rfl rfl ?_
      refine awl_val hτ rfl rfl rfl ?_
      refine awl_val hτ rfl rfl rfl ?_
      refine awl_val hτ rfl rfl rfl ?_
      refine bnd_elim h fun x34 hx34 h => ?_
      refine awl_elem hτ rfl rfl rfl (getI_some hx34).1 (map_getI hx34) rfl ?_
      refine awl_val hτ rfl rfl rfl ?_
      refine awl_val hτ rfl rfl rfl ?_
      refine awl_weak (weak_ofP [0, 1] (l := [(0, .ptr 0 0), (5, .row 1 v17.length 0 v17.length), (6, .d (.int .i64 v18)), (20, .row 1 v17.length 0 v17.length), (28, .d (.int .i64 x34.Parent))]) (objs := [.box [.d (.cx .f32 f_.Feeder.Source.A.re f_.Feeder.Source.A.im), .d (.cx .f32 f_.Feeder.Source.B.re f_.Feeder.Source.B.im), .d (.cx .f32 f_.Feeder.Source.C.re f_.Feeder.Source.C.im), .d (.sl false (f_.Feeder.Buses.map eSBus)), .d (.sl false (f_.Ties.map eSTie))], .row 1 (v17.map eInti64)]) rfl (by simp) rfl (by repeat' first | exact trivial | refine ⟨?_, ?_⟩) ⟨rfl, trivial, rfl, trivial, rfl, trivial, rfl, trivial, rfl, trivial, trivial⟩) ?_
      refine bnd_elim h fun x35 hx35 h => ?_
      refine awl_callP hτ true [] rfl rfl rfl (enterOk func66 rfl rfl) (mapO_cons (exV_view (f := eInti64) v17 rfl rfl rfl) (mapO_cons rfl mapO_nil)) rfl (by simp) ⟨(exVP_view (f := eInti64) v17 rfl rfl rfl), trivial, trivial⟩ (by repeat' first | exact trivial | refine ⟨?_, ?_⟩) (slices_Contains_ok_fr n v17 x34.Parent hx35) ?_
      rintro r0 o0 n0 ⟨rfl, rfl, rfl⟩ -
      refine awl_nil ?_
      refine aw_cond rfl (fun hc36 => ?_) (fun hc36 => ?_)
      · have h := if_bt h hc36
        refine aw_region ?_
        refine awl_val hτ rfl rfl rfl ?_
        refine awl_val hτ rfl rfl rfl ?_
        refine awl_valH hτ rfl rfl rfl ?_
        refine grd_elim h fun hg37 h => ?_
        refine awl_needH hτ rfl rfl (Eq.trans rfl (or_append (f := eInti64) v17 [v18] rfl)) ⟨⟨rfl, Nat.le_of_ble_eq_true rfl⟩, len_map _, rfl, rfl, hg37, by decide, (all1 rfl)⟩ ?_
        refine awl_val hτ rfl rfl rfl ?_
        refine awl_nil ?_
        refine aw_weak (weak_ofP [0, 1] (l := [(0, .ptr 0 0), (5, .row 1 ((v17 ++ [v18]).length) 0 ((v17 ++ [v18]).length)), (6, .d (.int .i64 v18))]) (objs := [.box [.d (.cx .f32 f_.Feeder.Source.A.re f_.Feeder.Source.A.im), .d (.cx .f32 f_.Feeder.Source.B.re f_.Feeder.Source.B.im), .d (.cx .f32 f_.Feeder.Source.C.re f_.Feeder.Source.C.im), .d (.sl false (f_.Feeder.Buses.map eSBus)), .d (.sl false (f_.Ties.map eSTie))], .row 1 ((v17 ++ [v18]).map eInti64)]) rfl (by simp) rfl (by repeat' first | exact trivial | refine ⟨?_, ?_⟩) ⟨rfl, trivial, rfl, trivial, rfl, trivial, trivial⟩) ?_
        exact hk33 (v17 ++ [v18]) h
      · have h := if_bf h hc36
        refine aw_skip ?_
        refine aw_weak (weak_ofP [0, 1] (l := [(0, .ptr 0 0), (5, .row 1 v17.length 0 v17.length), (6, .d (.int .i64 v18))]) (objs := [.box [.d (.cx .f32 f_.Feeder.Source.A.re f_.Feeder.Source.A.im), .d (.cx .f32 f_.Feeder.Source.B.re f_.Feeder.Source.B.im), .d (.cx .f32 f_.Feeder.Source.C.re f_.Feeder.Source.C.im), .d (.sl false (f_.Feeder.Buses.map eSBus)), .d (.sl false (f_.Ties.map eSTie))], .row 1 (v17.map eInti64)]) rfl (by simp) rfl (by repeat' first | exact trivial | refine ⟨?_, ?_⟩) ⟨rfl, trivial, rfl, trivial, rfl, trivial, trivial⟩) ?_
        exact hk33 v17 h
  · have h := if_f h hc27
    refine aw_exit ?_
    refine aw_seq ?_
    refine aw_region ?_
    refine awl_val hτ rfl rfl rfl ?_
    refine awl_val hτ rfl rfl rfl ?_
    refine awl_nil ?_
    refine aw_weak (weak_ofP [0, 1] (l := [(4, .row 1 v17.length 0 v17.length)]) (objs := [.box [.d (.cx .f32 f_.Feeder.Source.A.re f_.Feeder.Source.A.im), .d (.cx .f32 f_.Feeder.Source.B.re f_.Feeder.Source.B.im), .d (.cx .f32 f_.Feeder.Source.C.re f_.Feeder.Source.C.im), .d (.sl false (f_.Feeder.Buses.map eSBus)), .d (.sl false (f_.Ties.map eSTie))], .row 1 (v17.map eInti64)]) rfl (by simp) rfl (by repeat' first | exact trivial | refine ⟨?_, ?_⟩) ⟨rfl, trivial, trivial⟩) ?_
    refine aw_ret ?_
    have hr := Option.some.inj h
    subst hr
    exact ret_objs (.inr rfl) [1] (objs' := [.box [.d (.cx .f32 f_.Feeder.Source.A.re f_.Feeder.Source.A.im), .d (.cx .f32 f_.Feeder.Source.B.re f_.Feeder.Source.B.im), .d (.cx .f32 f_.Feeder.Source.C.re f_.Feeder.Source.C.im), .d (.sl false (f_.Feeder.Buses.map eSBus)), .d (.sl false (f_.Ties.map eSTie))]]) (new := [.row 1 (v17.map eInti64)]) rfl (by simp) (by simp) rfl (by repeat' first | exact trivial | refine ⟨?_, ?_⟩) rfl rfl (by repeat' first | exact trivial | refine ⟨?_, ?_⟩) (fun h => nomatch h) ⟨rfl, rfl, rfl⟩

def m_impl_DarkAfter (n : Nat) (g_ : SGrid) (bus_ : Int) : Option (List Int × Bool) :=
  (m_impl_Grid_failing n g_ bus_).bind fun x4 =>
  if x4 = true then
    (m_impl_Feeder_below n g_ bus_).bind fun x6 =>
    some (x6, true)
  else
    some (([] : List Int), false)
theorem impl_DarkAfter_ok_fr0 (fr : Bool) (n : Nat) (g_ : SGrid) (bus_ : Int) {r : List Int × Bool} (h : m_impl_DarkAfter n g_ bus_ = some r) : ACall prog fr 11 [.agg [.d (.cx .f32 g_.Feeder.Source.A.re g_.Feeder.Source.A.im), .d (.cx .f32 g_.Feeder.Source.B.re g_.Feeder.Source.B.im), .d (.cx .f32 g_.Feeder.Source.C.re g_.Feeder.Source.C.im), .d (.sl false (g_.Feeder.Buses.map eSBus)), .d (.sl false (g_.Ties.map eSTie))], .d (.int .i64 bus_)] [] (fun v o new => v = .tup [.row 0 r.1.length 0 r.1.length, .d (.bool r.2)] ∧ o = [] ∧ new = [.row 1 (r.1.map eInti64)]) := by
  refine acall_of_aw hτ func11 rfl (by simp) (by simp) ?_
  unfold m_impl_DarkAfter at h
  refine aw_seq ?_
  refine aw_region ?_
  refine awl_valH hτ rfl rfl rfl ?_
  refine awl_val hτ rfl rfl rfl ?_
  refine awl_val hτ rfl rfl rfl ?_
  refine awl_nil ?_
  refine aw_seq ?_
  refine aw_seq ?_
  refine aw_region ?_
  refine awl_val hτ rfl rfl rfl ?_
  refine bnd_elim h fun x4 hx4 h => ?_
  refine awl_callP hτ false [0] rfl rfl rfl (enterOk func35 rfl rfl) rfl rfl (by simp) ⟨trivial, trivial, trivial⟩ (by repeat' first | exact trivial | refine ⟨?_, ?_⟩) (impl_Grid_failing_ok n g_ bus_ hx4) ?_
  rintro r0 o0 n0 ⟨rfl, rfl, rfl⟩ -
  refine awl_val hτ rfl rfl rfl ?_
  refine awl_nil ?_
  refine aw_weak (weak_ofP [0] (l := [(1, .d (.int .i64 bus_)), (2, .ptr 0 0), (8, .d (.bool (!x4)))]) (objs := [.box [.d (.cx .f32 g_.Feeder.Source.A.re g_.Feeder.Source.A.im), .d (.cx .f32 g_.Feeder.Source.B.re g_.Feeder.Source.B.im), .d (.cx .f32 g_.Feeder.Source.C.re g_.Feeder.Source.C.im), .d (.sl false (g_.Feeder.Buses.map eSBus)), .d (.sl false (g_.Ties.map eSTie))]]) rfl (by simp) rfl (by repeat' first | exact trivial | refine ⟨?_, ?_⟩) ⟨rfl, trivial, rfl, trivial, rfl, trivial, trivial⟩) ?_
  refine aw_cond rfl (fun hc5 => ?_) (fun hc5 => ?_)
  · have hc5 := not_t hc5
    have h := if_bf h hc5
    refine aw_seq ?_
    refine aw_region ?_
    refine awl_val hτ rfl rfl rfl ?_
    refine awl_val hτ rfl rfl rfl ?_
    refine awl_nil ?_
    refine aw_weak (weak_ofP [] (l := [(4, .d (.nils)), (5, .d (.bool false))]) (objs := []) rfl (by simp) rfl (by repeat' first | exact trivial | refine ⟨?_, ?_⟩) ⟨rfl, trivial, rfl, trivial, trivial⟩) ?_
    refine aw_weak (weak_relax [1] (l' := [(4, .row 0 (([] : List Int).length) 0 (([] : List Int).length)), (5, .d (.bool false))]) (objs' := []) (.cons (.c (.ghost ⟨Nat.le_of_ble_eq_true rfl, Nat.le_of_ble_eq_true rfl⟩)) (.cons (.c (.refl _)) .nil)) .nil) ?_
    refine aw_ret ?_
    have hr := Option.some.inj h
    subst hr
    exact ret_objs (.inr rfl) [0] (objs' := []) (new := [.row 1 (([] : List Int).map eInti64)]) rfl (by simp) (by simp) rfl (by repeat' first | exact trivial | refine ⟨?_, ?_⟩) rfl rfl (by repeat' first | exact trivial | refine ⟨?_, ?_⟩) (fun _ => ⟨by simp [V.flat, V.flatA, V.flatC, D.flat], (flat_cons (flat_row eInti64_flat _) flat_nil)⟩) ⟨rfl, rfl, rfl⟩
  · have hc5 := not_f hc5
    have h := if_bt h hc5
    refine aw_skip ?_
    refine aw_seq ?_
    refine aw_region ?_
    refine awl_val hτ rfl rfl rfl ?_
    refine awl_val hτ rfl rfl rfl ?_
    refine bnd_elim h fun x6 hx6 h => ?_
    refine awl_callP hτ false [0] rfl rfl rfl (enterOk func36 rfl rfl) rfl rfl (by simp) ⟨trivial, trivial, trivial⟩ (by repeat' first | exact trivial | refine ⟨?_, ?_⟩) (impl_Feeder_below_ok n g_ bus_ hx6) ?_
    rintro r0 o0 n0 ⟨rfl, rfl, rfl⟩ -
    refine awl_val hτ rfl rfl rfl ?_
    refine awl_val hτ rfl rfl rfl ?_
    refine awl_nil ?_
    refine aw_weak (weak_ofP [1] (l := [(4, .row 0 x6.length 0 x6.length), (5, .d (.bool true))]) (objs := [.row 1 (x6.map eInti64)]) rfl (by simp) rfl (by repeat' first | exact trivial | refine ⟨?_, ?_⟩) ⟨rfl, trivial, rfl, trivial, trivial⟩) ?_
    refine aw_ret ?_
    have hr := Option.some.inj h
    subst hr
    exact ret_objs (.inr rfl) [0] (objs' := []) (new := [.row 1 (x6.map eInti64)]) rfl (by simp) (by simp) rfl (by repeat' first | exact trivial | refine ⟨?_, ?_⟩) rfl rfl (by repeat' first | exact trivial | refine ⟨?_, ?_⟩) (fun _ => ⟨by simp [V.flat, V.flatA, V.flatC, D.flat], (flat_cons (flat_row eInti64_flat _) flat_nil)⟩) ⟨rfl, rfl, rfl⟩
theorem impl_DarkAfter_ok (n : Nat) (g_ : SGrid) (bus_ : Int) {r : List Int × Bool} (h : m_impl_DarkAfter n g_ bus_ = some r) : ACall prog false 11 [.agg [.d (.cx .f32 g_.Feeder.Source.A.re g_.Feeder.Source.A.im), .d (.cx .f32 g_.Feeder.Source.B.re g_.Feeder.Source.B.im), .d (.cx .f32 g_.Feeder.Source.C.re g_.Feeder.Source.C.im), .d (.sl false (g_.Feeder.Buses.map eSBus)), .d (.sl false (g_.Ties.map eSTie))], .d (.int .i64 bus_)] [] (fun v o new => v = .tup [.row 0 r.1.length 0 r.1.length, .d (.bool r.2)] ∧ o = [] ∧ new = [.row 1 (r.1.map eInti64)]) := impl_DarkAfter_ok_fr0 false n g_ bus_ h
theorem impl_DarkAfter_ok_fr (n : Nat) (g_ : SGrid) (bus_ : Int) {r : List Int × Bool} (h : m_impl_DarkAfter n g_ bus_ = some r) : ACall prog true 11 [.agg [.d (.cx .f32 g_.Feeder.Source.A.re g_.Feeder.Source.A.im), .d (.cx .f32 g_.Feeder.Source.B.re g_.Feeder.Source.B.im), .d (.cx .f32 g_.Feeder.Source.C.re g_.Feeder.Source.C.im), .d (.sl false (g_.Feeder.Buses.map eSBus)), .d (.sl false (g_.Ties.map eSTie))], .d (.int .i64 bus_)] [] (fun v o new => v = .tup [.row 0 r.1.length 0 r.1.length, .d (.bool r.2)] ∧ o = [] ∧ new = [.row 1 (r.1.map eInti64)]) := impl_DarkAfter_ok_fr0 true n g_ bus_ h

def m_impl_Feeder_children_j2 (n : Nat) (k22 : List Int → Int → Option (List Int)) (v15 : Int) (v27 : List Int) : Option (List Int) :=
  k22 v27 (w64 (v15 + (1 : Int)))
def m_impl_Feeder_children_l1 (n : Nat) (f_ : SGrid) (bus_ : Int) : Nat → List Int → Int → Option (List Int)
  | 0, _, _ => none
  | m21 + 1, v14, v15 =>
    if v15 < (f_.Feeder.Buses.length : Int) then
      (getI f_.Feeder.Buses v15).bind fun x29 =>
      if x29.Parent = bus_ then
        grd (room (v14.length + 1) 8) <|
        m_impl_Feeder_children_j2 n (m_impl_Feeder_children_l1 n f_ bus_ m21) v15 (v14 ++ [v15])
      else
        m_impl_Feeder_children_j2 n (m_impl_Feeder_children_l1 n f_ bus_ m21) v15 v14
    else
      some v14
def m_impl_Feeder_children (n : Nat) (f_ : SGrid) (bus_ : Int) : Option (List Int) :=
  m_impl_Feeder_children_l1 n f_ bus_ n ([] : List Int) (0 : Int)
theorem impl_Feeder_children_ok (n : Nat) (f_ : SGrid) (bus_ : Int) {r : List Int} (h : m_impl_Feeder_children n f_ bus_ = some r) : ACall prog false 37 [.ptr 0 0, .d (.int .i64 bus_)] [.box [.d (.cx .f32 f_.Feeder.Source.A.re f_.Feeder.Source.A.im), .d (.cx .f32 f_.Feeder.Source.B.re f_.Feeder.Source.B.im), .d (.cx .f32 f_.Feeder.Source.C.re f_.Feeder.Source.C.im), .d (.sl false (f_.Feeder.Buses.map eSBus)), .d (.sl false (f_.Ties.map eSTie))]] (fun v o new => v = .row 1 r.length 0 r.length ∧ o = [.box [.d (.cx .f32 f_.Feeder.Source.A.re f_.Feeder.Source.A.im), .d (.cx .f32 f_.Feeder.Source.B.re f_.Feeder.Source.B.im), .d (.cx .f32 f_.Feeder.Source.C.re f_.Feeder.Source.C.im), .d (.sl false (f_.Feeder.Buses.map eSBus)), .d (.sl false (f_.Ties.map eSTie))]] ∧ new = [.row 1 (r.map eInti64)]) := by
  refine acall_of_aw hτ func37 rfl (by simp) (by simp) ?_
  unfold m_impl_Feeder_children at h
  refine aw_seq ?_
  refine aw_region ?_
  refine awl_val hτ rfl rfl rfl ?_
  refine awl_nil ?_
  refine aw_seq ?_
  refine aw_region ?_
  refine awl_valH hτ rfl rfl rfl ?_
  refine awl_val hτ rfl rfl rfl ?_
  refine awl_nil ?_
  refine aw_seq ?_
  refine aw_seq ?_
  refine aw_region ?_
  refine awl_val hτ rfl rfl rfl ?_
  refine awl_val hτ rfl rfl rfl ?_
  refine awl_val hτ rfl rfl rfl ?_
  refine awl_val hτ rfl rfl rfl ?_
  refine awl_val hτ (v := .d (.int .i64 (f_.Feeder.Buses.length : Int))) rfl rfl (Eq.trans rfl (or_len (f := eSBus) f_.Feeder.Buses)) ?_
  refine awl_val hτ rfl rfl rfl ?_
  refine awl_nil ?_
  refine aw_block ?_
  refine aw_loop (ι := Nat × List Int × Int) (fun (m21, v14, v15) => St.of [(1, .d (.int .i64 bus_)), (5, .row 1 v14.length 0 v14.length), (12, .d (.sl false (f_.Feeder.Buses.map eSBus))), (13, .d (.int .i64 (f_.Feeder.Buses.length : Int))), (14, .d (.int .i64 v15))] [.box [.d (.cx .f32 f_.Feeder.Source.A.re f_.Feeder.Source.A.im), .d (.cx .f32 f_.Feeder.Source.B.re f_.Feeder.Source.B.im), .d (.cx .f32 f_.Feeder.Source.C.re f_.Feeder.Source.C.im), .d (.sl false (f_.Feeder.Buses.map eSBus)), .d (.sl false (f_.Ties.map eSTie))], .row 1 (v14.map eInti64)] f37.ntmps 1) (fun (m21, v14, v15) => m_impl_Feeder_children_l1 n f_ bus_ m21 v14 v15 = some r) (fun x => x.1) (n, ([] : List Int), (0 : Int)) h (weak_ofP [0, 1] (l := [(1, .d (.int .i64 bus_)), (5, .row 1 (([] : List Int).length) 0 (([] : List Int).length)), (12, .d (.sl false (f_.Feeder.Buses.map eSBus))), (13, .d (.int .i64 (f_.Feeder.Buses.length : Int))), (14, .d (.int .i64 (0 : Int)))]) (objs := [.box [.d (.cx .f32 f_.Feeder.Source.A.re f_.Feeder.Source.A.im), .d (.cx .f32 f_.Feeder.Source.B.re f_.Feeder.Source.B.im), .d (.cx .f32 f_.Feeder.Source.C.re f_.Feeder.Source.C.im), .d (.sl false (f_.Feeder.Buses.map eSBus)), .d (.sl false (f_.Ties.map eSTie))], .row 1 (([] : List Int).map eInti64)]) rfl (by simp) rfl (by repeat' first | exact trivial | refine ⟨?_, ?_⟩) ⟨rfl, trivial, rfl, trivial, rfl, trivial, rfl, trivial, rfl, trivial, trivial⟩) ?_
  rintro ⟨m21, v14, v15⟩ h
  replace h : m_impl_Feeder_children_l1 n f_ bus_ m21 v14 v15 = some r := h
  rcases m21 with _ | m21
  · rw [m_impl_Feeder_children_l1] at h; cases h
  rw [m_impl_Feeder_children_l1] at h
  refine aw_seq ?_
  refine aw_region ?_
  refine awl_val hτ rfl rfl rfl ?_
  refine awl_nil ?_
  refine aw_seq ?_
  refine aw_cond rfl (fun hc23 => ?_) (fun hc23 => ?_)
  · have h := if_t h hc23
    refine aw_skip ?_
    refine aw_hk1 (ι := List Int) (fun v27 => St.of [(1, .d (.int .i64 bus_)), (5, .row 1 v27.length 0 v27.length), (12, .d (.sl false (f_.Feeder.Buses.map eSBus))), (13, .d (.int .i64 (f_.Feeder.Buses.length : Int))), (14, .d (.int .i64 v15))] [.box [.d (.cx .f32 f_.Feeder.Source.A.re f_.Feeder.Source.A.im), .d (.cx .f32 f_.Feeder.Source.B.re f_.Feeder.Source.B.im), .d (.cx .f32 f_.Feeder.Source.C.re f_.Feeder.Source.C.im), .d (.sl false (f_.Feeder.Buses.map eSBus)), .d (.sl false (f_.Ties.map eSTie))], .row 1 (v27.map eInti64)] f37.ntmps 1) (fun v27 => m_impl_Feeder_children_j2 n (m_impl_Feeder_children_l1 n f_ bus_ m21) v15 v27 = some r) ?_ (fun hk28 => ?_)
    · rintro v27 h
      replace h : m_impl_Feeder_children_j2 n (m_impl_Feeder_children_l1 n f_ bus_ m21) v15 v27 = some r := h
      unfold m_impl_Feeder_children_j2 at h
      refine aw_region ?_
      refine awl_val hτ rfl rfl rfl ?_
      refine awl_val hτ rfl rfl rfl ?_
      refine awl_nil ?_
      exact ⟨(m21, v27, (w64 (v15 + (1 : Int)))), h, Nat.lt_succ_self m21, (weak_ofP [0, 1] (l := [(1, .d (.int .i64 bus_)), (5, .row 1 v27.length 0 v27.length), (12, .d (.sl false (f_.Feeder.Buses.map eSBus))), (13, .d (.int .i64 (f_.Feeder.Buses.length : Int))), (14, .d (.int .i64 (w64 (v15 + (1 : Int)))))]) (objs := [.box [.d (.cx .f32 f_.Feeder.Source.A.re f_.Feeder.Source.A.im), .d (.cx .f32 f_.Feeder.Source.B.re f_.Feeder.Source.B.im), .d (.cx .f32 f_.Feeder.Source.C.re f_.Feeder.Source.C.im), .d (.sl false (f_.Feeder.Buses.map eSBus)), .d (.sl false (f_.Ties.map eSTie))], .row 1 (v27.map eInti64)]) rfl (by simp) rfl (by repeat' first | exact trivial | refine ⟨?_, ?_⟩) ⟨rfl, trivial, rfl, trivial, rfl, trivial, rfl, trivial, rfl, trivial, trivial⟩)⟩
    · refine aw_seq ?_
      refine aw_block ?_
      refine aw_seq ?_
      refine aw_region ?_
      refine awl_val hτ rfl rfl rfl ?_
      refine bnd_elim h fun x29 hx29 h => ?_
      refine awl_elem hτ rfl rfl rfl (getI_some hx29).1 (map_getI hx29) rfl ?_
      refine awl_val hτ rfl rfl rfl ?_
      refine awl_valH hτ rfl rfl rfl ?_
      refine awl_val hτ rfl rfl rfl ?_
      refine awl_valH hτ rfl rfl rfl ?_
      refine awl_nil ?_
      refine aw_seq ?_
      refine aw_weak (weak_ofP [0, 1, 2] (l := [(1, .d (.int .i64 bus_)), (5, .row 1 v14.length 0 v14.length), (6, .d (.int .i64 v15)), (7, .ptr 2 0), (12, .d (.sl false (f_.Feeder.Buses.map eSBus))), (13, .d (.int .i64 (f_.Feeder.Buses.length : Int))), (14, .d (.int .i64 v15))]) (objs := [.box [.d (.cx .f32 f_.Feeder.Source.A.re f_.Feeder.Source.A.im), .d (.cx .f32 f_.Feeder.Source.B.re f_.Feeder.Source.B.im), .d (.cx .f32 f_.Feeder.Source.C.re f_.Feeder.Source.C.im), .d (.sl false (f_.Feeder.Buses.map eSBus)), .d (.sl false (f_.Ties.map eSTie))], .row 1 (v14.map eInti64), .box [.d (.int .i64 x29.Parent), .d (.cx .f32 x29.Own.re x29.Own.im), .d (.cx .f32 x29.Shared.re x29.Shared.im), .d (.int .i64 x29.Kind), .d (.cx .f32 x29.Load.A.re x29.Load.A.im), .d (.cx .f32 x29.Load.B.re x29.Load.B.im), .d (.cx .f32 x29.Load.C.re x29.Load.C.im), .d (.int .i64 x29.Customers)]]) rfl (by simp) rfl (by repeat' first | exact trivial | refine ⟨?_, ?_⟩) ⟨rfl, trivial, rfl, trivial, rfl, trivial, rfl, trivial, rfl, trivial, rfl, trivial, rfl, trivial, trivial⟩) ?_
      refine aw_region ?_
      refine awl_val hτ rfl rfl rfl ?_
      refine awl_val hτ rfl rfl rfl ?_
      refine awl_val hτ rfl rfl rfl ?_
      refine awl_val hτ (v := .d (.bool (decide (x29.Parent = bus_)))) rfl rfl (or_ieq _ _) ?_
      refine awl_nil ?_
      refine aw_cond rfl (fun hc30 => ?_) (fun hc30 => ?_)
      · have h := if_t h hc30
        refine aw_region ?_
        refine awl_val hτ rfl rfl rfl ?_
        refine awl_val hτ rfl rfl rfl ?_
        refine awl_valH hτ rfl rfl rfl ?_
        refine grd_elim h fun hg31 h => ?_
        refine awl_needH hτ rfl rfl (Eq.trans rfl (or_append (f := eInti64) v14 [v15] rfl)) ⟨⟨rfl, Nat.le_of_ble_eq_true rfl⟩, len_map _, rfl, rfl, hg31, by decide, (all1 rfl)⟩ ?_
        refine awl_val hτ rfl rfl rfl ?_
        refine awl_nil ?_
        refine aw_weak (weak_ofP [0, 1] (l := [(1, .d (.int .i64 bus_)), (5, .row 1 ((v14 ++ [v15]).length) 0 ((v14 ++ [v15]).length)), (12, .d (.sl false (f_.Feeder.Buses.map eSBus))), (13, .d (.int .i64 (f_.Feeder.Buses.length : Int))), (14, .d (.int .i64 v15))]) (objs := [.box [.d (.cx .f32 f_.Feeder.Source.A.re f_.Feeder.Source.A.im), .d (.cx .f32 f_.Feeder.Source.B.re f_.Feeder.Source.B.im), .d (.cx .f32 f_.Feeder.Source.C.re f_.Feeder.Source.C.im), .d (.sl false (f_.Feeder.Buses.map eSBus)), .d (.sl false (f_.Ties.map eSTie))], .row 1 ((v14 ++ [v15]).map eInti64)]) rfl (by simp) rfl (by repeat' first | exact trivial | refine ⟨?_, ?_⟩) ⟨rfl, trivial, rfl, trivial, rfl, trivial, rfl, trivial, rfl, trivial, trivial⟩) ?_
        exact hk28 (v14 ++ [v15]) h
      · have h := if_f h hc30
        refine aw_skip ?_
        refine aw_weak (weak_ofP [0, 1] (l := [(1, .d (.int .i64 bus_)), (5, .row 1 v14.length 0 v14.length), (12, .d (.sl false (f_.Feeder.Buses.map eSBus))), (13, .d (.int .i64 (f_.Feeder.Buses.length : Int))), (14, .d (.int .i64 v15))]) (objs := [.box [.d (.cx .f32 f_.Feeder.Source.A.re f_.Feeder.Source.A.im), .d (.cx .f32 f_.Feeder.Source.B.re f_.Feeder.Source.B.im), .d (.cx .f32 f_.Feeder.Source.C.re f_.Feeder.Source.C.im), .d (.sl false (f_.Feeder.Buses.map eSBus)), .d (.sl false (f_.Ties.map eSTie))], .row 1 (v14.map eInti64)]) rfl (by simp) rfl (by repeat' first | exact trivial | refine ⟨?_, ?_⟩) ⟨rfl, trivial, rfl, trivial, rfl, trivial, rfl, trivial, rfl, trivial, trivial⟩) ?_
        exact hk28 v14 h
  · have h := if_f h hc23
    refine aw_exit ?_
    refine aw_seq ?_
    refine aw_region ?_
    refine awl_val hτ rfl rfl rfl ?_
    refine awl_val hτ rfl rfl rfl ?_
    refine awl_nil ?_
    refine aw_weak (weak_ofP [0, 1] (l := [(4, .row 1 v14.length 0 v14.length)]) (objs := [.box [.d (.cx .f32 f_.Feeder.Source.A.re f_.Feeder.Source.A.im), .d (.cx .f32 f_.Feeder.Source.B.re f_.Feeder.Source.B.im), .d (.cx .f32 f_.Feeder.Source.C.re f_.Feeder.Source.C.im), .d (.sl false (f_.Feeder.Buses.map eSBus)), .d (.sl false (f_.Ties.map eSTie))], .row 1 (v14.map eInti64)]) rfl (by simp) rfl (by repeat' first | exact trivial | refine ⟨?_, ?_⟩) ⟨rfl, trivial, trivial⟩) ?_
    refine aw_ret ?_
    have hr := Option.some.inj h
    subst hr
    exact ret_objs (.inr rfl) [1] (objs' := [.box [.d (.cx .f32 f_.Feeder.Source.A.re f_.Feeder.Source.A.im), .d (.cx .f32 f_.Feeder.Source.B.re f_.Feeder.Source.B.im), .d (.cx .f32 f_.Feeder.Source.C.re f_.Feeder.Source.C.im), .d (.sl false (f_.Feeder.Buses.map eSBus)), .d (.sl false (f_.Ties.map eSTie))]]) (new := [.row 1 (v14.map eInti64)]) rfl (by simp) (by simp) rfl (by repeat' first | exact trivial | refine ⟨?_, ?_⟩) rfl rfl (by repeat' first | exact trivial | refine ⟨?_, ?_⟩) (fun h => nomatch h) ⟨rfl, rfl, rfl⟩

def m_impl_PartsAfter_l1 (n : Nat) (g_ : SGrid) (x16 : List Int) : Nat → List (List Int) → Int → Option (List (List Int) × Bool)
  | 0, _, _ => none
  | m27 + 1, v20, v21 =>
    if v21 < (x16.length : Int) then
      (getI x16 v21).bind fun x30 =>
      (m_impl_Feeder_below n g_ x30).bind fun x31 =>
      grd (room (v20.length + 1) 24) <|
      (m_impl_PartsAfter_l1 n g_ x16 m27) (v20 ++ [x31]) (w64 (v21 + (1 : Int)))
    else
      some (v20, true)
def m_impl_PartsAfter (n : Nat) (g_ : SGrid) (bus_ : Int) : Option (List (List Int) × Bool) :=
  (m_impl_Grid_failing n g_ bus_).bind fun x14 =>
  if x14 = true then
    (m_impl_Feeder_children n g_ bus_).bind fun x16 =>
    m_impl_PartsAfter_l1 n g_ x16 n ([] : List (List Int)) (0 : Int)
  else
    some (([] : List (List Int)), false)
theorem impl_PartsAfter_ok (n : Nat) (g_ : SGrid) (bus_ : Int) {r : List (List Int) × Bool} (h : m_impl_PartsAfter n g_ bus_ = some r) : ACall prog false 12 [.agg [.d (.cx .f32 g_.Feeder.Source.A.re g_.Feeder.Source.A.im), .d (.cx .f32 g_.Feeder.Source.B.re g_.Feeder.Source.B.im), .d (.cx .f32 g_.Feeder.Source.C.re g_.Feeder.Source.C.im), .d (.sl false (g_.Feeder.Buses.map eSBus)), .d (.sl false (g_.Ties.map eSTie))], .d (.int .i64 bus_)] [] (fun v o new => v = .tup [.row 0 r.1.length 0 r.1.length, .d (.bool r.2)] ∧ o = [] ∧ new = [.row 1 (r.1.map eLInt)]) := by
  refine acall_of_aw hτ func12 rfl (by simp) (by simp) ?_
  unfold m_impl_PartsAfter at h
  refine aw_seq ?_
  refine aw_region ?_
  refine awl_valH hτ rfl rfl rfl ?_
  refine awl_val hτ rfl rfl rfl ?_
  refine awl_val hτ rfl rfl rfl ?_
  refine awl_nil ?_
  refine aw_seq ?_
  refine aw_seq ?_
  refine aw_region ?_
  refine awl_val hτ rfl rfl rfl ?_
  refine bnd_elim h fun x14 hx14 h => ?_
  refine awl_callP hτ false [0] rfl rfl rfl (enterOk func35 rfl rfl) rfl rfl (by simp) ⟨trivial, trivial, trivial⟩ (by repeat' first | exact trivial | refine ⟨?_, ?_⟩) (impl_Grid_failing_ok n g_ bus_ hx14) ?_
  rintro r0 o0 n0 ⟨rfl, rfl, rfl⟩ -
  refine awl_val hτ rfl rfl rfl ?_
  refine awl_nil ?_
  refine aw_weak (weak_ofP [0] (l := [(1, .d (.int .i64 bus_)), (2, .ptr 0 0), (11, .d (.bool (!x14)))]) (objs := [.box [.d (.cx .f32 g_.Feeder.Source.A.re g_.Feeder.Source.A.im), .d (.cx .f32 g_.Feeder.Source.B.re g_.Feeder.Source.B.im), .d (.cx .f32 g_.Feeder.Source.C.re g_.Feeder.Source.C.im), .d (.sl false (g_.Feeder.Buses.map eSBus)), .d (.sl false (g_.Ties.map eSTie))]]) rfl (by simp) rfl (by repeat' first | exact trivial | refine ⟨?_, ?_⟩) ⟨rfl, trivial, rfl, trivial, rfl, trivial, trivial⟩) ?_
  refine aw_cond rfl (fun hc15 => ?_) (fun hc15 => ?_)
  · have hc15 := not_t hc15
    have h := if_bf h hc15
    refine aw_seq ?_
    refine aw_region ?_
    refine awl_val hτ rfl rfl rfl ?_
    refine awl_val hτ rfl rfl rfl ?_
    refine awl_nil ?_
    refine aw_weak (weak_ofP [] (l := [(4, .d (.nils)), (5, .d (.bool false))]) (objs := []) rfl (by simp) rfl (by repeat' first | exact trivial | refine ⟨?_, ?_⟩) ⟨rfl, trivial, rfl, trivial, trivial⟩) ?_
    refine aw_weak (weak_relax [1] (l' := [(4, .row 0 (([] : List (List Int)).length) 0 (([] : List (List Int)).length)), (5, .d (.bool false))]) (objs' := []) (.cons (.c (.ghost ⟨Nat.le_of_ble_eq_true rfl, Nat.le_of_ble_eq_true rfl⟩)) (.cons (.c (.refl _)) .nil)) .nil) ?_
    refine aw_ret ?_
    have hr := Option.some.inj h
    subst hr
    exact ret_objs (.inr rfl) [0] (objs' := []) (new := [.row 1 (([] : List (List Int)).map eLInt)]) rfl (by simp) (by simp) rfl (by repeat' first | exact trivial | refine ⟨?_, ?_⟩) rfl rfl (by repeat' first | exact trivial | refine ⟨?_, ?_⟩) (fun h => nomatch h) ⟨rfl, rfl, rfl⟩
  · have hc15 := not_f hc15
    have h := if_bt h hc15
    refine aw_skip ?_
    refine aw_seq ?_
    refine aw_region ?_
    refine awl_valH hτ rfl rfl rfl ?_
    refine awl_val hτ rfl rfl rfl ?_
    refine awl_nil ?_
    refine aw_seq ?_
    refine aw_seq ?_
    refine aw_region ?_
    refine awl_val hτ rfl rfl rfl ?_
    refine awl_val hτ rfl rfl rfl ?_
    refine bnd_elim h fun x16 hx16 h => ?_
    refine awl_callP hτ false [0] rfl rfl rfl (enterOk func37 rfl rfl) rfl rfl (by simp) ⟨trivial, trivial, trivial⟩ (by repeat' first | exact trivial | refine ⟨?_, ?_⟩) (impl_Feeder_children_ok n g_ bus_ hx16) ?_
    rintro r0 o0 n0 ⟨rfl, rfl, rfl⟩ -
    refine awl_need hτ rfl rfl rfl (len_map _) ?_
    refine awl_val hτ rfl rfl rfl ?_
    refine awl_nil ?_
    refine aw_block ?_
    refine aw_loop (ι := Nat × List (List Int) × Int) (fun (m27, v20, v21) => St.of [(2, .ptr 0 0), (6, .row 1 v20.length 0 v20.length), (15, .row 2 x16.length 0 x16.length), (16, .d (.int .i64 (x16.length : Int))), (17, .d (.int .i64 v21))] [.box [.d (.cx .f32 g_.Feeder.Source.A.re g_.Feeder.Source.A.im), .d (.cx .f32 g_.Feeder.Source.B.re g_.Feeder.Source.B.im), .d (.cx .f32 g_.Feeder.Source.C.re g_.Feeder.Source.C.im), .d (.sl false (g_.Feeder.Buses.map eSBus)), .d (.sl false (g_.Ties.map eSTie))], .row 1 (v20.map eLInt), .row 1 (x16.map eInti64)] f12.ntmps 0) (fun (m27, v20, v21) => m_impl_PartsAfter_l1 n g_ x16 m27 v20 v21 = some r) (fun x => x.1) (n, ([] : List (List Int)), (0 : Int)) h (weak_ofP [0, 1, 2] (l := [(2, .ptr 0 0), (6, .row 1 (([] : List (List Int)).length) 0 (([] : List (List Int)).length)), (15, .row 2 x16.length 0 x16.length), (16, .d (.int .i64 (x16.length : Int))), (17, .d (.int .i64 (0 : Int)))]) (objs := [.box [.d (.cx .f32 g_.Feeder.Source.A.re g_.Feeder.Source.A.im), .d (.cx .f32 g_.Feeder.Source.B.re g_.Feeder.Source.B.im), .d (.cx .f32 g_.Feeder.Source.C.re g_.Feeder.Source.C.im), .d (.sl false (g_.Feeder.Buses.map eSBus)), .d (.sl false (g_.Ties.map eSTie))], .row 1 (([] : List (List Int)).map eLInt), .row 1 (x16.map eInti64)]) rfl (by simp) rfl (by repeat' first | exact trivial | refine ⟨?_, ?_⟩) ⟨rfl, trivial, rfl, trivial, rfl, trivial, rfl, trivial, rfl, trivial, trivial⟩) ?_
    rintro ⟨m27, v20, v21⟩ h
    replace h : m_impl_PartsAfter_l1 n g_ x16 m27 v20 v21 = some r := h
    rcases m27 with _ | m27
    · rw [m_impl_PartsAfter_l1] at h; cases h
    rw [m_impl_PartsAfter_l1] at h
    refine aw_seq ?_
    refine aw_region ?_
    refine awl_val hτ rfl rfl rfl ?_
    refine awl_nil ?_
    refine aw_seq ?_
    refine aw_cond rfl (fun hc29 => ?_) (fun hc29 => ?_)
    · have h := if_t h hc29
      refine aw_skip ?_
      refine aw_seq ?_
      refine aw_block ?_
      refine aw_seq ?_
      refine aw_region ?_
      refine bnd_elim h fun x30 hx30 h => ?_
      refine awl_need hτ rfl rfl rfl (row_need hx30) ?_
      refine awl_elem hτ rfl rfl rfl (len_map _) (row_get hx30) rfl ?_
      refine awl_val hτ rfl rfl rfl ?_
      refine awl_nil ?_
      refine aw_region ?_
      refine awl_val hτ rfl rfl rfl ?_
      refine awl_val hτ rfl rfl rfl ?_
      refine awl_val hτ rfl rfl rfl ?_
      refine bnd_elim h fun x31 hx31 h => ?_
      refine awl_callP hτ false [0] rfl rfl rfl (enterOk func36 rfl rfl) rfl rfl (by simp) ⟨trivial, trivial, trivial⟩ (by repeat' first | exact trivial | refine ⟨?_, ?_⟩) (impl_Feeder_below_ok n g_ x30 hx31) ?_
      rintro r0 o0 n0 ⟨rfl, rfl, rfl⟩ -
      refine awl_weak (weak_ofP [0, 1, 2] (l := [(2, .ptr 0 0), (6, .row 1 v20.length 0 v20.length), (15, .row 2 x16.length 0 x16.length), (16, .d (.int .i64 (x16.length : Int))), (17, .d (.int .i64 v21)), (21, .row 1 v20.length 0 v20.length), (24, .d (.sl false (x31.map eInti64)))]) (objs := [.box [.d (.cx .f32 g_.Feeder.Source.A.re g_.Feeder.Source.A.im), .d (.cx .f32 g_.Feeder.Source.B.re g_.Feeder.Source.B.im), .d (.cx .f32 g_.Feeder.Source.C.re g_.Feeder.Source.C.im), .d (.sl false (g_.Feeder.Buses.map eSBus)), .d (.sl false (g_.Ties.map eSTie))], .row 1 (v20.map eLInt), .row 1 (x16.map eInti64)]) rfl (by simp) rfl (by repeat' first | exact trivial | refine ⟨?_, ?_⟩) ⟨rfl, trivial, rfl, trivial, rfl, trivial, rfl, trivial, rfl, trivial, rfl, trivial, (exV_view (f := eInti64) x31 rfl rfl rfl), (exVP_view (f := eInti64) x31 rfl rfl rfl), trivial⟩) ?_
      refine awl_valH hτ rfl rfl rfl ?_
      refine grd_elim h fun hg32 h => ?_
      refine awl_needH hτ rfl rfl (Eq.trans rfl (or_append (f := eLInt) v20 [x31] rfl)) ⟨⟨rfl, Nat.le_of_ble_eq_true rfl⟩, len_map _, rfl, rfl, hg32, by decide, (all1 rfl)⟩ ?_
      refine awl_val hτ rfl rfl rfl ?_
      refine awl_nil ?_
      refine aw_region ?_
      refine awl_val hτ rfl rfl rfl ?_
      refine awl_val hτ rfl rfl rfl ?_
      refine awl_nil ?_
      exact ⟨(m27, (v20 ++ [x31]), (w64 (v21 + (1 : Int)))), h, Nat.lt_succ_self m27, (weak_ofP [0, 1, 2] (l := [(2, .ptr 0 0), (6, .row 1 ((v20 ++ [x31]).length) 0 ((v20 ++ [x31]).length)), (15, .row 2 x16.length 0 x16.length), (16, .d (.int .i64 (x16.length : Int))), (17, .d (.int .i64 (w64 (v21 + (1 : Int)))))]) (objs := [.box [.d (.cx .f32 g_.Feeder.Source.A.re g_.Feeder.Source.A.im), .d (.cx .f32 g_.Feeder.Source.B.re g_.Feeder.Source.B.im), .d (.cx .f32 g_.Feeder.Source.C.re g_.Feeder.Source.C.im), .d (.sl false (g_.Feeder.Buses.map eSBus)), .d (.sl false (g_.Ties.map eSTie))], .row 1 ((v20 ++ [x31]).map eLInt), .row 1 (x16.map eInti64)]) rfl (by simp) rfl (by repeat' first | exact trivial | refine ⟨?_, ?_⟩) ⟨rfl, trivial, rfl, trivial, rfl, trivial, rfl, trivial, rfl, trivial, trivial⟩)⟩
    · have h := if_f h hc29
      refine aw_exit ?_
      refine aw_seq ?_
      refine aw_region ?_
      refine awl_val hτ rfl rfl rfl ?_
      refine awl_val hτ rfl rfl rfl ?_
      refine awl_val hτ rfl rfl rfl ?_
      refine awl_nil ?_
      refine aw_weak (weak_ofP [1] (l := [(4, .row 0 v20.length 0 v20.length), (5, .d (.bool true))]) (objs := [.row 1 (v20.map eLInt)]) rfl (by simp) rfl (by repeat' first | exact trivial | refine ⟨?_, ?_⟩) ⟨rfl, trivial, rfl, trivial, trivial⟩) ?_
      refine aw_ret ?_
      have hr := Option.some.inj h
      subst hr
      exact ret_objs (.inr rfl) [0] (objs' := []) (new := [.row 1 (v20.map eLInt)]) rfl (by simp) (by simp) rfl (by repeat' first | exact trivial | refine ⟨?_, ?_⟩) rfl rfl (by repeat' first | exact trivial | refine ⟨?_, ?_⟩) (fun h => nomatch h) ⟨rfl, rfl, rfl⟩

def m_impl_Grid_closing_j2 (n : Nat) (k62 : Int → Option Bool) (v46 : Int) : Option Bool :=
  k62 (w64 (v46 + (1 : Int)))
def m_impl_Grid_closing_j3 (n : Nat) (k62 : Int → Option Bool) (v46 : Int) (v91 : Bool) : Option Bool :=
  if v91 = true then
    some false
  else
    m_impl_Grid_closing_j2 n k62 v46
def m_impl_Grid_closing_l1 (n : Nat) (g_ : SGrid) (bus_ : Int) (closed_ : List Int) : Nat → Int → Option Bool
  | 0, _ => none
  | m61 + 1, v46 =>
    if v46 < (closed_.length : Int) then
      (getI closed_ v46).bind fun x78 =>
      (m_impl_in n x78 (0 : Int) (w64 ((g_.Ties.length : Int) - (1 : Int)))).bind fun x94 =>
      if x94 = true then
        if v46 > (0 : Int) then
          (getI closed_ (w64 (v46 - (1 : Int)))).bind fun x97 =>
          if x97 ≥ x78 then
            m_impl_Grid_closing_j3 n (m_impl_Grid_closing_l1 n g_ bus_ closed_ m61) v46 true
          else
            (getI g_.Ties x78).bind fun x99 =>
            if x99.A = bus_ then
              m_impl_Grid_closing_j3 n (m_impl_Grid_closing_l1 n g_ bus_ closed_ m61) v46 true
            else
              m_impl_Grid_closing_j3 n (m_impl_Grid_closing_l1 n g_ bus_ closed_ m61) v46 (decide (x99.B = bus_))
        else
          (getI g_.Ties x78).bind fun x101 =>
          if x101.A = bus_ then
            m_impl_Grid_closing_j3 n (m_impl_Grid_closing_l1 n g_ bus_ closed_ m61) v46 true
          else
            m_impl_Grid_closing_j3 n (m_impl_Grid_closing_l1 n g_ bus_ closed_ m61) v46 (decide (x101.B = bus_))
      else
        m_impl_Grid_closing_j3 n (m_impl_Grid_closing_l1 n g_ bus_ closed_ m61) v46 true
    else
      some true
def m_impl_Grid_closing (n : Nat) (g_ : SGrid) (bus_ : Int) (closed_ : List Int) : Option Bool :=
  (m_impl_Grid_failing n g_ bus_).bind fun x31 =>
  if x31 = true then
    m_impl_Grid_closing_l1 n g_ bus_ closed_ n (0 : Int)
  else
    some false
theorem impl_Grid_closing_ok (n : Nat) (g_ : SGrid) (bus_ : Int) (closed_ : List Int) {r : Bool} (h : m_impl_Grid_closing n g_ bus_ closed_ = some r) : ACall prog false 38 [.ptr 0 0, .d (.int .i64 bus_), .d (.sl false (closed_.map eInti64))] [.box [.d (.cx .f32 g_.Feeder.Source.A.re g_.Feeder.Source.A.im), .d (.cx .f32 g_.Feeder.Source.B.re g_.Feeder.Source.B.im), .d (.cx .f32 g_.Feeder.Source.C.re g_.Feeder.Source.C.im), .d (.sl false (g_.Feeder.Buses.map eSBus)), .d (.sl false (g_.Ties.map eSTie))]] (fun v o new => v = .d (.bool r) ∧ o = [.box [.d (.cx .f32 g_.Feeder.Source.A.re g_.Feeder.Source.A.im), .d (.cx .f32 g_.Feeder.Source.B.re g_.Feeder.Source.B.im), .d (.cx .f32 g_.Feeder.Source.C.re g_.Feeder.Source.C.im), .d (.sl false (g_.Feeder.Buses.map eSBus)), .d (.sl false (g_.Ties.map eSTie))]] ∧ new = []) := by
  refine acall_of_aw hτ func38 rfl (by simp) (by simp) ?_
  unfold m_impl_Grid_closing at h
  refine aw_seq ?_
  refine aw_region ?_
  refine awl_val hτ rfl rfl rfl ?_
  refine awl_nil ?_
  refine aw_seq ?_
  refine aw_seq ?_
  refine aw_region ?_
  refine awl_val hτ rfl rfl rfl ?_
  refine awl_val hτ rfl rfl rfl ?_
  refine bnd_elim h fun x31 hx31 h => ?_
  refine awl_callP hτ false [0] rfl rfl rfl (enterOk func35 rfl rfl) rfl rfl (by simp) ⟨trivial, trivial, trivial⟩ (by repeat' first | exact trivial | refine ⟨?_, ?_⟩) (impl_Grid_failing_ok n g_ bus_ hx31) ?_
  rintro r0 o0 n0 ⟨rfl, rfl, rfl⟩ -
  refine awl_val hτ rfl rfl rfl ?_
  refine awl_nil ?_
  refine aw_cond rfl (fun hc32 => ?_) (fun hc32 => ?_)
  · have hc32 := not_t hc32
    have h := if_bf h hc32
    refine aw_seq ?_
    refine aw_region ?_
    refine awl_val hτ rfl rfl rfl ?_
    refine awl_nil ?_
    refine aw_weak (weak_ofP [0] (l := [(6, .d (.bool false))]) (objs := [.box [.d (.cx .f32 g_.Feeder.Source.A.re g_.Feeder.Source.A.im), .d (.cx .f32 g_.Feeder.Source.B.re g_.Feeder.Source.B.im), .d (.cx .f32 g_.Feeder.Source.C.re g_.Feeder.Source.C.im), .d (.sl false (g_.Feeder.Buses.map eSBus)), .d (.sl false (g_.Ties.map eSTie))]]) rfl (by simp) rfl (by repeat' first | exact trivial | refine ⟨?_, ?_⟩) ⟨rfl, trivial, trivial⟩) ?_
    refine aw_ret ?_
    have hr := Option.some.inj h
    subst hr
    exact ret_objs (.inr rfl) [] (objs' := [.box [.d (.cx .f32 g_.Feeder.Source.A.re g_.Feeder.Source.A.im), .d (.cx .f32 g_.Feeder.Source.B.re g_.Feeder.Source.B.im), .d (.cx .f32 g_.Feeder.Source.C.re g_.Feeder.Source.C.im), .d (.sl false (g_.Feeder.Buses.map eSBus)), .d (.sl false (g_.Ties.map eSTie))]]) (new := []) rfl (by simp) (by simp) rfl (by repeat' first | exact trivial | refine ⟨?_, ?_⟩) rfl rfl (by repeat' first | exact trivial | refine ⟨?_, ?_⟩) (fun h => nomatch h) ⟨rfl, rfl, rfl⟩
  · have hc32 := not_f hc32
    have h := if_bt h hc32
    refine aw_skip ?_
    refine aw_seq ?_
    refine aw_seq ?_
    refine aw_region ?_
    refine awl_val hτ rfl rfl rfl ?_
    refine awl_val hτ (v := .d (.int .i64 (closed_.length : Int))) rfl rfl (Eq.trans rfl (or_len (f := eInti64) closed_)) ?_
    refine awl_val hτ rfl rfl rfl ?_
    refine awl_nil ?_
    refine aw_block ?_
    refine aw_loop (ι := Nat × Int) (fun (m61, v46) => St.of [(0, .ptr 0 0), (1, .d (.int .i64 bus_)), (2, .d (.sl false (closed_.map eInti64))), (13, .d (.sl false (closed_.map eInti64))), (14, .d (.int .i64 (closed_.length : Int))), (15, .d (.int .i64 v46))] [.box [.d (.cx .f32 g_.Feeder.Source.A.re g_.Feeder.Source.A.im), .d (.cx .f32 g_.Feeder.Source.B.re g_.Feeder.Source.B.im), .d (.cx .f32 g_.Feeder.Source.C.re g_.Feeder.Source.C.im), .d (.sl false (g_.Feeder.Buses.map eSBus)), .d (.sl false (g_.Ties.map eSTie))]] f38.ntmps 1) (fun (m61, v46) => m_impl_Grid_closing_l1 n g_ bus_ closed_ m61 v46 = some r) (fun x => x.1) (n, (0 : Int)) h (weak_ofP [0] (l := [(0, .ptr 0 0), (1, .d (.int .i64 bus_)), (2, .d (.sl false (closed_.map eInti64))), (13, .d (.sl false (closed_.map eInti64))), (14, .d (.int .i64 (closed_.length : Int))), (15, .d (.int .i64 (0 : Int)))]) (objs := [.box [.d (.cx .f32 g_.Feeder.Source.A.re g_.Feeder.Source.A.im), .d (.cx .f32 g_.Feeder.Source.B.re g_.Feeder.Source.B.im), .d (.cx .f32 g_.Feeder.Source.C.re g_.Feeder.Source.C.im), .d (.sl false (g_.Feeder.Buses.map eSBus)), .d (.sl false (g_.Ties.map eSTie))]]) rfl (by simp) rfl (by repeat' first | exact trivial | refine ⟨?_, ?_⟩) ⟨rfl, trivial, rfl, trivial, rfl, trivial, rfl, trivial, rfl, trivial, rfl, trivial, trivial⟩) ?_
    rintro ⟨m61, v46⟩ h
    replace h : m_impl_Grid_closing_l1 n g_ bus_ closed_ m61 v46 = some r := h
    rcases m61 with _ | m61
    · rw [m_impl_Grid_closing_l1] at h; cases h
    rw [m_impl_Grid_closing_l1] at h
    refine aw_seq ?_
    refine aw_region ?_
    refine awl_val hτ rfl rfl rfl ?_
    refine awl_nil ?_
    refine aw_seq ?_
    refine aw_cond rfl (fun hc63 => ?_) (fun hc63 => ?_)
    · have h := if_t h hc63
      refine aw_skip ?_
      refine aw_hk1 (ι := Unit) (fun _ => St.of [(0, .ptr 0 0), (1, .d (.int .i64 bus_)), (2, .d (.sl false (closed_.map eInti64))), (13, .d (.sl false (closed_.map eInti64))), (14, .d (.int .i64 (closed_.length : Int))), (15, .d (.int .i64 v46))] [.box [.d (.cx .f32 g_.Feeder.Source.A.re g_.Feeder.Source.A.im), .d (.cx .f32 g_.Feeder.Source.B.re g_.Feeder.Source.B.im), .d (.cx .f32 g_.Feeder.Source.C.re g_.Feeder.Source.C.im), .d (.sl false (g_.Feeder.Buses.map eSBus)), .d (.sl false (g_.Ties.map eSTie))]] f38.ntmps 1) (fun _ => m_impl_Grid_closing_j2 n (m_impl_Grid_closing_l1 n g_ bus_ closed_ m61) v46 = some r) ?_ (fun hk77 => ?_)
      · rintro ⟨⟩ h
        replace h : m_impl_Grid_closing_j2 n (m_impl_Grid_closing_l1 n g_ bus_ closed_ m61) v46 = some r := h
        unfold m_impl_Grid_closing_j2 at h
        refine aw_region ?_
        refine awl_val hτ rfl rfl rfl ?_
        refine awl_val hτ rfl rfl rfl ?_
        refine awl_nil ?_
        exact ⟨(m61, (w64 (v46 + (1 : Int)))), h, Nat.lt_succ_self m61, (weak_ofP [0] (l := [(0, .ptr 0 0), (1, .d (.int .i64 bus_)), (2, .d (.sl false (closed_.map eInti64))), (13, .d (.sl false (closed_.map eInti64))), (14, .d (.int .i64 (closed_.length : Int))), (15, .d (.int .i64 (w64 (v46 + (1 : Int)))))]) (objs := [.box [.d (.cx .f32 g_.Feeder.Source.A.re g_.Feeder.Source.A.im), .d (.cx .f32 g_.Feeder.Source.B.re g_.Feeder.Source.B.im), .d (.cx .f32 g_.Feeder.Source.C.re g_.Feeder.Source.C.im), .d (.sl false (g_.Feeder.Buses.map eSBus)), .d (.sl false (g_.Ties.map eSTie))]]) rfl (by simp) rfl (by repeat' first | exact trivial | refine ⟨?_, ?_⟩) ⟨rfl, trivial, rfl, trivial, rfl, trivial, rfl, trivial, rfl, trivial, rfl, trivial, trivial⟩)⟩
      · refine aw_seq ?_
        refine aw_block ?_
        refine aw_seq ?_
        refine aw_region ?_
        refine awl_val hτ rfl rfl rfl ?_
        refine bnd_elim h fun x78 hx78 h => ?_
        refine awl_elem hτ rfl rfl rfl (getI_some hx78).1 (map_getI hx78) rfl ?_
        refine awl_val hτ rfl rfl rfl ?_
        refine awl_val hτ rfl rfl rfl ?_
        refine awl_val hτ rfl rfl rfl ?_
        refine awl_nil ?_
        refine aw_hk1 (ι := Bool) (fun v91 => St.of [(0, .ptr 0 0), (1, .d (.int .i64 bus_)), (2, .d (.sl false (closed_.map eInti64))), (13, .d (.sl false (closed_.map eInti64))), (14, .d (.int .i64 (closed_.length : Int))), (15, .d (.int .i64 v46)), (65, .d (.bool v91))] [.box [.d (.cx .f32 g_.Feeder.Source.A.re g_.Feeder.Source.A.im), .d (.cx .f32 g_.Feeder.Source.B.re g_.Feeder.Source.B.im), .d (.cx .f32 g_.Feeder.Source.C.re g_.Feeder.Source.C.im), .d (.sl false (g_.Feeder.Buses.map eSBus)), .d (.sl false (g_.Ties.map eSTie))]] f38.ntmps 1) (fun v91 => m_impl_Grid_closing_j3 n (m_impl_Grid_closing_l1 n g_ bus_ closed_ m61) v46 v91 = some r) ?_ (fun hk93 => ?_)
        · rintro v91 h
          replace h : m_impl_Grid_closing_j3 n (m_impl_Grid_closing_l1 n g_ bus_ closed_ m61) v46 v91 = some r := h
          unfold m_impl_Grid_closing_j3 at h
          refine aw_cond rfl (fun hc92 => ?_) (fun hc92 => ?_)
          · have h := if_bt h hc92
            refine aw_seq ?_
            refine aw_region ?_
            refine awl_val hτ rfl rfl rfl ?_
            refine awl_nil ?_
            refine aw_weak (weak_ofP [0] (l := [(6, .d (.bool false))]) (objs := [.box [.d (.cx .f32 g_.Feeder.Source.A.re g_.Feeder.Source.A.im), .d (.cx .f32 g_.Feeder.Source.B.re g_.Feeder.Source.B.im), .d (.cx .f32 g_.Feeder.Source.C.re g_.Feeder.Source.C.im), .d (.sl false (g_.Feeder.Buses.map eSBus)), .d (.sl false (g_.Ties.map eSTie))]]) rfl (by simp) rfl (by repeat' first | exact trivial | refine ⟨?_, ?_⟩) ⟨rfl, trivial, trivial⟩) ?_
            refine aw_ret ?_
            have hr := Option.some.inj h
            subst hr
            exact ret_objs (.inr rfl) [] (objs' := [.box [.d (.cx .f32 g_.Feeder.Source.A.re g_.Feeder.Source.A.im), .d (.cx .f32 g_.Feeder.Source.B.re g_.Feeder.Source.B.im), .d (.cx .f32 g_.Feeder.Source.C.re g_.Feeder.Source.C.im), .d (.sl false (g_.Feeder.Buses.map eSBus)), .d (.sl false (g_.Ties.map eSTie))]]) (new := []) rfl (by simp) (by simp) rfl (by repeat' first | exact trivial | refine ⟨?_, ?_⟩) rfl rfl (by repeat' first | exact trivial | refine ⟨?_, ?_⟩) (fun h => nomatch h) ⟨rfl, rfl, rfl⟩
          · have h := if_bf h hc92
            refine aw_skip ?_
            refine aw_weak (weak_ofP [0] (l := [(0, .ptr 0 0), (1, .d (.int .i64 bus_)), (2, .d (.sl false (closed_.map eInti64))), (13, .d (.sl false (closed_.map eInti64))), (14, .d (.int .i64 (closed_.length : Int))), (15, .d (.int .i64 v46))]) (objs := [.box [.d (.cx .f32 g_.Feeder.Source.A.re g_.Feeder.Source.A.im), .d (.cx .f32 g_.Feeder.Source.B.re g_.Feeder.Source.B.im), .d (.cx .f32 g_.Feeder.Source.C.re g_.Feeder.Source.C.im), .d (.sl false (g_.Feeder.Buses.map eSBus)), .d (.sl false (g_.Ties.map eSTie))]]) rfl (by simp) rfl (by repeat' first | exact trivial | refine ⟨?_, ?_⟩) ⟨rfl, trivial, rfl, trivial, rfl, trivial, rfl, trivial, rfl, trivial, rfl, trivial, trivial⟩) ?_
            exact hk77 () h
        · refine aw_seq ?_
          refine aw_weak (weak_ofP [0] (l := [(0, .ptr 0 0), (1, .d (.int .i64 bus_)), (2, .d (.sl false (closed_.map eInti64))), (7, .d (.int .i64 v46)), (8, .d (.int .i64 x78)), (13, .d (.sl false (closed_.map eInti64))), (14, .d (.int .i64 (closed_.length : Int))), (15, .d (.int .i64 v46))]) (objs := [.box [.d (.cx .f32 g_.Feeder.Source.A.re g_.Feeder.Source.A.im), .d (.cx .f32 g_.Feeder.Source.B.re g_.Feeder.Source.B.im), .d (.cx .f32 g_.Feeder.Source.C.re g_.Feeder.Source.C.im), .d (.sl false (g_.Feeder.Buses.map eSBus)), .d (.sl false (g_.Ties.map eSTie))]]) rfl (by simp) rfl (by repeat' first | exact trivial | refine ⟨?_, ?_⟩) ⟨rfl, trivial, rfl, trivial, rfl, trivial, rfl, trivial, rfl, trivial, rfl, trivial, rfl, trivial, rfl, trivial, trivial⟩) ?_
          refine aw_region ?_
          refine awl_val hτ rfl rfl rfl ?_
          refine awl_val hτ rfl rfl rfl ?_
          refine awl_val hτ rfl rfl rfl ?_
          refine awl_val hτ rfl rfl rfl ?_
          refine awl_val hτ rfl rfl rfl ?_
          refine awl_val hτ (v := .d (.int .i64 (g_.Ties.length : Int))) rfl rfl (Eq.trans rfl (or_len (f := eSTie) g_.Ties)) ?_
          refine awl_val hτ rfl rfl rfl ?_
          refine bnd_elim h fun x94 hx94 h => ?_
          refine awl_callP hτ false [] rfl rfl rfl (enterOk func64 rfl rfl) rfl rfl (by simp) ⟨trivial, trivial, trivial, trivial⟩ (by repeat' first | exact trivial | refine ⟨?_, ?_⟩) (impl_in_ok n x78 (0 : Int) (w64 ((g_.Ties.length : Int) - (1 : Int))) hx94) ?_
          rintro r0 o0 n0 ⟨rfl, rfl, rfl⟩ -
          refine awl_val hτ rfl rfl rfl ?_
          refine awl_val hτ rfl rfl rfl ?_
          refine awl_split 29 rfl (fun hb95 => ?_) (fun hb95 => ?_)
          · have hb95 := not_t hb95
            have h := if_bf h hb95
            refine awl_skip rfl rfl ?_
            refine awl_skip rfl rfl ?_
            refine awl_weak (weak_ofP [0] (l := [(0, .ptr 0 0), (1, .d (.int .i64 bus_)), (2, .d (.sl false (closed_.map eInti64))), (7, .d (.int .i64 v46)), (8, .d (.int .i64 x78)), (13, .d (.sl false (closed_.map eInti64))), (14, .d (.int .i64 (closed_.length : Int))), (15, .d (.int .i64 v46)), (29, .d (.bool true)), (31, .und)]) (objs := [.box [.d (.cx .f32 g_.Feeder.Source.A.re g_.Feeder.Source.A.im), .d (.cx .f32 g_.Feeder.Source.B.re g_.Feeder.Source.B.im), .d (.cx .f32 g_.Feeder.Source.C.re g_.Feeder.Source.C.im), .d (.sl false (g_.Feeder.Buses.map eSBus)), .d (.sl false (g_.Ties.map eSTie))]]) rfl (by simp) rfl (by repeat' first | exact trivial | refine ⟨?_, ?_⟩) ⟨rfl, trivial, rfl, trivial, rfl, trivial, rfl, trivial, rfl, trivial, rfl, trivial, rfl, trivial, rfl, trivial, rfl, trivial, rfl, trivial, trivial⟩) ?_
            refine awl_skip rfl rfl ?_
            refine awl_skip rfl rfl ?_
            refine awl_skip rfl rfl ?_
            refine awl_skip rfl rfl ?_
            refine awl_skip rfl rfl ?_
            refine awl_skip rfl rfl ?_
            refine awl_skip rfl rfl ?_
            refine awl_skip rfl rfl ?_
            refine awl_skip rfl rfl ?_
            refine awl_val hτ rfl rfl rfl ?_
            refine awl_val hτ rfl rfl rfl ?_
            refine awl_skip rfl rfl ?_
            refine awl_weak (weak_ofP [0] (l := [(0, .ptr 0 0), (1, .d (.int .i64 bus_)), (2, .d (.sl false (closed_.map eInti64))), (8, .d (.int .i64 x78)), (13, .d (.sl false (closed_.map eInti64))), (14, .d (.int .i64 (closed_.length : Int))), (15, .d (.int .i64 v46)), (42, .d (.bool true)), (43, .und)]) (objs := [.box [.d (.cx .f32 g_.Feeder.Source.A.re g_.Feeder.Source.A.im), .d (.cx .f32 g_.Feeder.Source.B.re g_.Feeder.Source.B.im), .d (.cx .f32 g_.Feeder.Source.C.re g_.Feeder.Source.C.im), .d (.sl false (g_.Feeder.Buses.map eSBus)), .d (.sl false (g_.Ties.map eSTie))]]) rfl (by simp) rfl (by repeat' first | exact trivial | refine ⟨?_, ?_⟩) ⟨rfl, trivial, rfl, trivial, rfl, trivial, rfl, trivial, rfl, trivial, rfl, trivial, rfl, trivial, rfl, trivial, rfl, trivial, trivial⟩) ?_
            refine awl_skip rfl rfl ?_
            refine awl_skip rfl rfl ?_
            refine awl_skip rfl rfl ?_
            refine awl_skip rfl rfl ?_
            refine awl_skip rfl rfl ?_
            refine awl_skip rfl rfl ?_
            refine awl_skip rfl rfl ?_
            refine awl_skip rfl rfl ?_
            refine awl_skip rfl rfl ?_
            refine awl_val hτ rfl rfl rfl ?_
            refine awl_val hτ rfl rfl rfl ?_
            refine awl_skip rfl rfl ?_
            refine awl_weak (weak_ofP [0] (l := [(0, .ptr 0 0), (1, .d (.int .i64 bus_)), (2, .d (.sl false (closed_.map eInti64))), (8, .d (.int .i64 x78)), (13, .d (.sl false (closed_.map eInti64))), (14, .d (.int .i64 (closed_.length : Int))), (15, .d (.int .i64 v46)), (54, .d (.bool true)), (55, .und)]) (objs := [.box [.d (.cx .f32 g_.Feeder.Source.A.re g_.Feeder.Source.A.im), .d (.cx .f32 g_.Feeder.Source.B.re g_.Feeder.Source.B.im), .d (.cx .f32 g_.Feeder.Source.C.re g_.Feeder.Source.C.im), .d (.sl false (g_.Feeder.Buses.map eSBus)), .d (.sl false (g_.Ties.map eSTie))]]) rfl (by simp) rfl (by repeat' first | exact trivial | refine ⟨?_, ?_⟩) ⟨rfl, trivial, rfl, trivial, rfl, trivial, rfl, trivial, rfl, trivial, rfl, trivial, rfl, trivial, rfl, trivial, rfl, trivial, trivial⟩) ?_
            refine awl_skip rfl rfl ?_
            refine awl_skip rfl rfl ?_
            refine awl_skip rfl rfl ?_
            refine awl_skip rfl rfl ?_
            refine awl_skip rfl rfl ?_
            refine awl_skip rfl rfl ?_
            refine awl_skip rfl rfl ?_
            refine awl_skip rfl rfl ?_
            refine awl_skip rfl rfl ?_
            refine awl_val hτ rfl rfl rfl ?_
            refine awl_nil ?_
            refine aw_weak (weak_ofP [0] (l := [(0, .ptr 0 0), (1, .d (.int .i64 bus_)), (2, .d (.sl false (closed_.map eInti64))), (13, .d (.sl false (closed_.map eInti64))), (14, .d (.int .i64 (closed_.length : Int))), (15, .d (.int .i64 v46)), (65, .d (.bool true))]) (objs := [.box [.d (.cx .f32 g_.Feeder.Source.A.re g_.Feeder.Source.A.im), .d (.cx .f32 g_.Feeder.Source.B.re g_.Feeder.Source.B.im), .d (.cx .f32 g_.Feeder.Source.C.re g_.Feeder.Source.C.im), .d (.sl false (g_.Feeder.Buses.map eSBus)), .d (.sl false (g_.Ties.map eSTie))]]) rfl (by simp) rfl (by repeat' first | exact trivial | refine ⟨?_, ?_⟩) ⟨rfl, trivial, rfl, trivial, rfl, trivial, rfl, trivial, rfl, trivial, rfl, trivial, rfl, trivial, trivial⟩) ?_
            exact hk93 true h
          · have hb95 := not_f hb95
            have h := if_bt h hb95
            refine awl_val hτ rfl rfl rfl ?_
            refine awl_val hτ rfl rfl rfl ?_
            refine awl_weak (weak_ofP [0] (l := [(0, .ptr 0 0), (1, .d (.int .i64 bus_)), (2, .d (.sl false (closed_.map eInti64))), (7, .d (.int .i64 v46)), (8, .d (.int .i64 x78)), (13, .d (.sl false (closed_.map eInti64))), (14, .d (.int .i64 (closed_.length : Int))), (15, .d (.int .i64 v46)), (29, .d (.bool false)), (31, .d (.bool (decide (v46 > (0 : Int)))))]) (objs := [.box [.d (.cx .f32 g_.Feeder.Source.A.re g_.Feeder.Source.A.im), .d (.cx .f32 g_.Feeder.Source.B.re g_.Feeder.Source.B.im), .d (.cx .f32 g_.Feeder.Source.C.re g_.Feeder.Source.C.im), .d (.sl false (g_.Feeder.Buses.map eSBus)), .d (.sl false (g_.Ties.map eSTie))]]) rfl (by simp) rfl (by repeat' first | exact trivial | refine ⟨?_, ?_⟩) ⟨rfl, trivial, rfl, trivial, rfl, trivial, rfl, trivial, rfl, trivial, rfl, trivial, rfl, trivial, rfl, trivial, rfl, trivial, rfl, trivial, trivial⟩) ?_
            refine awl_val hτ rfl rfl rfl ?_
            refine awl_split 32 rfl (fun hb96 => ?_) (fun hb96 => ?_)
            · have h := if_t h hb96
              refine awl_val hτ rfl rfl rfl ?_
              refine awl_val hτ rfl rfl rfl ?_
              refine awl_val hτ rfl rfl rfl ?_
              refine bnd_elim h fun x97 hx97 h => ?_
              refine awl_elem hτ rfl rfl rfl (getI_some hx97).1 (map_getI hx97) rfl ?_
              refine awl_val hτ rfl rfl rfl ?_
              refine awl_val hτ rfl rfl rfl ?_
              refine awl_val hτ rfl rfl rfl ?_
              refine awl_val hτ rfl rfl rfl ?_
              refine awl_val hτ rfl rfl rfl ?_
              refine awl_val hτ rfl rfl rfl ?_
              refine awl_split 42 rfl (fun hb98 => ?_) (fun hb98 => ?_)
              · have h := if_t h hb98
                refine awl_skip rfl rfl ?_
                refine awl_weak (weak_ofP [0] (l := [(0, .ptr 0 0), (1, .d (.int .i64 bus_)), (2, .d (.sl false (closed_.map eInti64))), (8, .d (.int .i64 x78)), (13, .d (.sl false (closed_.map eInti64))), (14, .d (.int .i64 (closed_.length : Int))), (15, .d (.int .i64 v46)), (42, .d (.bool true)), (43, .und)]) (objs := [.box [.d (.cx .f32 g_.Feeder.Source.A.re g_.Feeder.Source.A.im), .d (.cx .f32 g_.Feeder.Source.B.re g_.Feeder.Source.B.im), .d (.cx .f32 g_.Feeder.Source.C.re g_.Feeder.Source.C.im), .d (.sl false (g_.Feeder.Buses.map eSBus)), .d (.sl false (g_.Ties.map eSTie))]]) rfl (by simp) rfl (by repeat' first | exact trivial | refine ⟨?_, ?_⟩) ⟨rfl, trivial, rfl, trivial, rfl, trivial, rfl, trivial, rfl, trivial, rfl, trivial, rfl, trivial, rfl, trivial, rfl, trivial, trivial⟩) ?_
                refine awl_skip rfl rfl ?_
                refine awl_skip rfl rfl ?_
                refine awl_skip rfl rfl ?_
                refine awl_skip rfl rfl ?_
                refine awl_skip rfl rfl ?_
                refine awl_skip rfl rfl ?_
                refine awl_skip rfl rfl ?_
                refine awl_skip rfl rfl ?_
                refine awl_skip rfl rfl ?_
                refine awl_val hτ rfl rfl rfl ?_
                refine awl_val hτ rfl rfl rfl ?_
                refine awl_skip rfl rfl ?_
                refine awl_weak (weak_ofP [0] (l := [(0, .ptr 0 0), (1, .d (.int .i64 bus_)), (2, .d (.sl false (closed_.map eInti64))), (8, .d (.int .i64 x78)), (13, .d (.sl false (closed_.map eInti64))), (14, .d (.int .i64 (closed_.length : Int))), (15, .d (.int .i64 v46)), (54, .d (.bool true)), (55, .und)]) (objs := [.box [.d (.cx .f32 g_.Feeder.Source.A.re g_.Feeder.Source.A.im), .d (.cx .f32 g_.Feeder.Source.B.re g_.Feeder.Source.B.im), .d (.cx .f32 g_.Feeder.Source.C.re g_.Feeder.Source.C.im), .d (.sl false (g_.Feeder.Buses.map eSBus)), .d (.sl false (g_.Ties.map eSTie))]]) rfl (by simp) rfl (by repeat' first | exact trivial | refine ⟨?_, ?_⟩) ⟨rfl, trivial, rfl, trivial, rfl, trivial, rfl, trivial, rfl, trivial, rfl, trivial, rfl, trivial, rfl, trivial, rfl, trivial, trivial⟩) ?_
                refine awl_skip rfl rfl ?_
                refine awl_skip rfl rfl ?_
                refine awl_skip rfl rfl ?_
                refine awl_skip rfl rfl ?_
                refine awl_skip rfl rfl ?_
                refine awl_skip rfl rfl ?_
                refine awl_skip rfl rfl ?_
                refine awl_skip rfl rfl ?_
                refine awl_skip rfl rfl ?_
                refine awl_val hτ rfl rfl rfl ?_
                refine awl_nil ?_
                refine aw_weak (weak_ofP [0] (l := [(0, .ptr 0 0), (1, .d (.int .i64 bus_)), (2, .d (.sl false (closed_.map eInti64))), (13, .d (.sl false (closed_.map eInti64))), (14, .d (.int .i64 (closed_.length : Int))), (15, .d (.int .i64 v46)), (65, .d (.bool true))]) (objs := [.box [.d (.cx .f32 g_.Feeder.Source.A.re g_.Feeder.Source.A.im), .d (.cx .f32 g_.Feeder.Source.B.re g_.Feeder.Source.B.im), .d (.cx .f32 g_.Feeder.Source.C.re g_.Feeder.Source.C.im), .d (.sl false (g_.Feeder.Buses.map eSBus)), .d (.sl false (g_.Ties.map eSTie))]]) rfl (by simp) rfl (by repeat' first | exact trivial | refine ⟨?_, ?_⟩) ⟨rfl, trivial, rfl, trivial, rfl, trivial, rfl, trivial, rfl, trivial, rfl, trivial, rfl, trivial, trivial⟩) ?_
                exact hk93 true h
              · have h := if_f h hb98
                refine awl_val hτ rfl rfl rfl ?_
                refine awl_weak (weak_ofP [0] (l := [(0, .ptr 0 0), (1, .d (.int .i64 bus_)), (2, .d (.sl false (closed_.map eInti64))), (8, .d (.int .i64 x78)), (13, .d (.sl false (closed_.map eInti64))), (14, .d (.int .i64 (closed_.length : Int))), (15, .d (.int .i64 v46)), (42, .d (.bool false)), (43, .ptr 0 0)]) (objs := [.box [.d (.cx .f32 g_.Feeder.Source.A.re g_.Feeder.Source.A.im), .d (.cx .f32 g_.Feeder.Source.B.re g_.Feeder.Source.B.im), .d (.cx .f32 g_.Feeder.Source.C.re g_.Feeder.Source.C.im), .d (.sl false (g_.Feeder.Buses.map eSBus)), .d (.sl false (g_.Ties.map eSTie))]]) rfl (by simp) rfl (by repeat' first | exact trivial | refine ⟨?_, ?_⟩) ⟨rfl, trivial, rfl, trivial, rfl, trivial, rfl, trivial, rfl, trivial, rfl, trivial, rfl, trivial, rfl, trivial, rfl, trivial, trivial⟩) ?_
                refine awl_val hτ rfl rfl rfl ?_
                refine awl_val hτ rfl rfl rfl ?_
                refine awl_val hτ rfl rfl rfl ?_
                refine awl_val hτ rfl rfl rfl ?_
                refine bnd_elim h fun x99 hx99 h => ?_
                refine awl_elem hτ rfl rfl rfl (getI_some hx99).1 (map_getI hx99) rfl ?_
                refine awl_val hτ rfl rfl rfl ?_
                refine awl_val hτ rfl rfl rfl ?_
                refine awl_val hτ rfl rfl rfl ?_
                refine awl_val hτ (v := .d (.bool (decide (x99.A = bus_)))) rfl rfl (or_ieq _ _) ?_
                refine awl_val hτ rfl rfl rfl ?_
                refine awl_val hτ rfl rfl rfl ?_
                refine awl_split 54 rfl (fun hb100 => ?_) (fun hb100 => ?_)
                · have h := if_t h hb100
                  refine awl_skip rfl rfl ?_
                  refine awl_weak (weak_ofP [0] (l := [(0, .ptr 0 0), (1, .d (.int .i64 bus_)), (2, .d (.sl false (closed_.map eInti64))), (8, .d (.int .i64 x78)), (13, .d (.sl false (closed_.map eInti64))), (14, .d (.int .i64 (closed_.length : Int))), (15, .d (.int .i64 v46)), (54, .d (.bool true)), (55, .und)]) (objs := [.box [.d (.cx .f32 g_.Feeder.Source.A.re g_.Feeder.Source.A.im), .d (.cx .f32 g_.Feeder.Source.B.re g_.Feeder.Source.B.im), .d (.cx .f32 g_.Feeder.Source.C.re g_.Feeder.Source.C.im), .d (.sl false (g_.Feeder.Buses.map eSBus)), .d (.sl false (g_.Ties.map eSTie))]]) rfl (by simp) rfl (by repeat' first | exact trivial | refine ⟨?_, ?_⟩) ⟨rfl, trivial, rfl, trivial, rfl, trivial, rfl, trivial, rfl, trivial, rfl, trivial, rfl, trivial, rfl, trivial, rfl, trivial, trivial⟩) ?_
                  refine awl_skip rfl rfl ?_
                  refine awl_skip rfl rfl ?_
                  refine awl_skip rfl rfl ?_
                  refine awl_skip rfl rfl ?_
                  refine awl_skip rfl rfl ?_
                  refine awl_skip rfl rfl ?_
                  refine awl_skip rfl rfl ?_
                  refine awl_skip rfl rfl ?_
                  refine awl_skip rfl rfl ?_
                  refine awl_val hτ rfl rfl rfl ?_
                  refine awl_nil ?_
                  refine aw_weak (weak_ofP [0] (l := [(0, .ptr 0 0), (1, .d (.int .i64 bus_)), (2, .d (.sl false (closed_.map eInti64))), (13, .d (.sl false (closed_.map eInti64))), (14, .d (.int .i64 (closed_.length : Int))), (15, .d (.int .i64 v46)), (65, .d (.bool true))]) (objs := [.box [.d (.cx .f32 g_.Feeder.Source.A.re g_.Feeder.Source.A.im), .d (.cx .f32 g_.Feeder.Source.B.re g_.Feeder.Source.B.im), .d (.cx .f32 g_.Feeder.Source.C.re g_.Feeder.Source.C.im), .d (.sl false (g_.Feeder.Buses.map eSBus)), .d (.sl false (g_.Ties.map eSTie))]]) rfl (by simp) rfl (by repeat' first | exact trivial | refine ⟨?_, ?_⟩) ⟨rfl, trivial, rfl, trivial, rfl, trivial, rfl, trivial, rfl, trivial, rfl, trivial, rfl, trivial, trivial⟩) ?_
                  exact hk93 true h
                · have h := if_f h hb100
                  refine awl_val hτ rfl rfl rfl ?_
                  refine awl_weak (weak_ofP [0] (l := [(0, .ptr 0 0), (1, .d (.int .i64 bus_)), (2, .d (.sl false (closed_.map eInti64))), (8, .d (.int .i64 x78)), (13, .d (.sl false (closed_.map eInti64))), (14, .d (.int .i64 (closed_.length : Int))), (15, .d (.int .i64 v46)), (54, .d (.bool false)), (55, .ptr 0 0)]) (objs := [.box [.d (.cx .f32 g_.Feeder.Source.A.re g_.Feeder.Source.A.im), .d (.cx .f32 g_.Feeder.Source.B.re g_.Feeder.Source.B.im), .d (.cx .f32 g_.Feeder.Source.C.re g_.Feeder.Source.C.im), .d (.sl false (g_.Feeder.Buses.map eSBus)), .d (.sl false (g_.Ties.map eSTie))]]) rfl (by simp) rfl (by repeat' first | exact trivial | refine ⟨?_, ?_⟩) ⟨rfl, trivial, rfl, trivial, rfl, trivial, rfl, trivial, rfl, trivial, rfl, trivial, rfl, trivial, rfl, trivial, rfl, trivial, trivial⟩) ?_
                  refine awl_val hτ rfl rfl rfl ?_
                  refine awl_val hτ rfl rfl rfl ?_
                  refine awl_val hτ rfl rfl rfl ?_
                  refine awl_val hτ rfl rfl rfl ?_
                  refine awl_elem hτ rfl rfl rfl (getI_some hx99).1 (map_getI hx99) rfl ?_
                  refine awl_val hτ rfl rfl rfl ?_
                  refine awl_val hτ rfl rfl rfl ?_
                  refine awl_val hτ rfl rfl rfl ?_
                  refine awl_val hτ (v := .d (.bool (decide (x99.B = bus_)))) rfl rfl (or_ieq _ _) ?_
                  refine awl_val hτ rfl rfl rfl ?_
                  refine awl_nil ?_
                  refine aw_weak (weak_ofP [0] (l := [(0, .ptr 0 0), (1, .d (.int .i64 bus_)), (2, .d (.sl false (closed_.map eInti64))), (13, .d (.sl false (closed_.map eInti64))), (14, .d (.int .i64 (closed_.length : Int))), (15, .d (.int .i64 v46)), (65, .d (.bool (decide (x99.B = bus_))))]) (objs := [.box [.d (.cx .f32 g_.Feeder.Source.A.re g_.Feeder.Source.A.im), .d (.cx .f32 g_.Feeder.Source.B.re g_.Feeder.Source.B.im), .d (.cx .f32 g_.Feeder.Source.C.re g_.Feeder.Source.C.im), .d (.sl false (g_.Feeder.Buses.map eSBus)), .d (.sl false (g_.Ties.map eSTie))]]) rfl (by simp) rfl (by repeat' first | exact trivial | refine ⟨?_, ?_⟩) ⟨rfl, trivial, rfl, trivial, rfl, trivial, rfl, trivial, rfl, trivial, rfl, trivial, rfl, trivial, trivial⟩) ?_
                  exact hk93 (decide (x99.B = bus_)) h
            · have h := if_f h hb96
              refine awl_skip rfl rfl ?_
              refine awl_skip rfl rfl ?_
              refine awl_skip rfl rfl ?_
              refine awl_skip rfl rfl ?_
              refine awl_skip rfl rfl ?_
              refine awl_skip rfl rfl ?_
              refine awl_skip rfl rfl ?_
              refine awl_val hτ rfl rfl rfl ?_
              refine awl_val hτ rfl rfl rfl ?_
              refine awl_val hτ rfl rfl rfl ?_
              refine awl_val hτ rfl rfl rfl ?_
              refine awl_weak (weak_ofP [0] (l := [(0, .ptr 0 0), (1, .d (.int .i64 bus_)), (2, .d (.sl false (closed_.map eInti64))), (8, .d (.int .i64 x78)), (13, .d (.sl false (closed_.map eInti64))), (14, .d (.int .i64 (closed_.length : Int))), (15, .d (.int .i64 v46)), (42, .d (.bool false)), (43, .ptr 0 0)]) (objs := [.box [.d (.cx .f32 g_.Feeder.Source.A.re g_.Feeder.Source.A.im), .d (.cx .f32 g_.Feeder.Source.B.re g_.Feeder.Source.B.im), .d (.cx .f32 g_.Feeder.Source.C.re g_.Feeder.Source.C.im), .d (.sl false (g_.Feeder.Buses.map eSBus)), .d (.sl false (g_.Ties.map eSTie))]]) rfl (by simp) rfl (by repeat' first | exact trivial | refine ⟨?_, ?_⟩) ⟨rfl, trivial, rfl, trivial, rfl, trivial, rfl, trivial, rfl, trivial, rfl, trivial, rfl, trivial, rfl, trivial, rfl, trivial, trivial⟩) ?_
              refine awl_val hτ rfl rfl rfl ?_
              refine awl_val hτ rfl rfl rfl ?_
              refine awl_val hτ rfl rfl rfl ?_
              refine awl_val hτ rfl rfl rfl ?_
              refine bnd_elim h fun x101 hx101 h => ?_
              refine awl_elem hτ rfl rfl rfl (getI_some hx101).1 (map_getI hx101) rfl ?_
              refine awl_val hτ rfl rfl rfl ?_
              refine awl_val hτ rfl rfl rfl ?_
              refine awl_val hτ rfl rfl rfl ?_
              refine awl_val hτ (v := .d (.bool (decide (x101.A = bus_)))) rfl rfl (or_ieq _ _) ?_
              refine awl_val hτ rfl rfl rfl ?_
              refine awl_val hτ rfl rfl rfl ?_
              refine awl_split 54 rfl (fun hb102 => ?_) (fun hb102 => ?_)
              · have h := if_t h hb102
                refine awl_skip rfl rfl ?_
                refine awl_weak (weak_ofP [0] (l := [(0, .ptr 0 0), (1, .d (.int .i64 bus_)), (2, .d (.sl false (closed_.map eInti64))), (8, .d (.int .i64 x78)), (13, .d (.sl false (closed_.map eInti64))), (14, .d (.int .i64 (closed_.length : Int))), (15, .d (.int .i64 v46)), (54, .d (.bool true)), (55, .und)]) (objs := [.box [.d (.cx .f32 g_.Feeder.Source.A.re g_.Feeder.Source.A.im), .d (.cx .f32 g_.Feeder.Source.B.re g_.Feeder.Source.B.im), .d (.cx .f32 g_.Feeder.Source.C.re g_.Feeder.Source.C.im), .d (.sl false (g_.Feeder.Buses.map eSBus)), .d (.sl false (g_.Ties.map eSTie))]]) rfl (by simp) rfl (by repeat' first | exact trivial | refine ⟨?_, ?_⟩) ⟨rfl, trivial, rfl, trivial, rfl, trivial, rfl, trivial, rfl, trivial, rfl, trivial, rfl, trivial, rfl, trivial, rfl, trivial, trivial⟩) ?_
                refine awl_skip rfl rfl ?_
                refine awl_skip rfl rfl ?_
                refine awl_skip rfl rfl ?_
                refine awl_skip rfl rfl ?_
                refine awl_skip rfl rfl ?_
                refine awl_skip rfl rfl ?_
                refine awl_skip rfl rfl ?_
                refine awl_skip rfl rfl ?_
                refine awl_skip rfl rfl ?_
                refine awl_val hτ rfl rfl rfl ?_
                refine awl_nil ?_
                refine aw_weak (weak_ofP [0] (l := [(0, .ptr 0 0), (1, .d (.int .i64 bus_)), (2, .d (.sl false (closed_.map eInti64))), (13, .d (.sl false (closed_.map eInti64))), (14, .d (.int .i64 (closed_.length : Int))), (15, .d (.int .i64 v46)), (65, .d (.bool true))]) (objs := [.box [.d (.cx .f32 g_.Feeder.Source.A.re g_.Feeder.Source.A.im), .d (.cx .f32 g_.Feeder.Source.B.re g_.Feeder.Source.B.im), .d (.cx .f32 g_.Feeder.Source.C.re g_.Feeder.Source.C.im), .d (.sl false (g_.Feeder.Buses.map eSBus)), .d (.sl false (g_.Ties.map eSTie))]]) rfl (by simp) rfl (by repeat' first | exact trivial | refine ⟨?_, ?_⟩) ⟨rfl, trivial, rfl, trivial, rfl, trivial, rfl, trivial, rfl, trivial, rfl, trivial, rfl, trivial, trivial⟩) ?_
                exact hk93 true h
              · have h := if_f h hb102
                refine awl_val hτ rfl rfl rfl ?_
                refine awl_weak (weak_ofP [0] (l := [(0, .ptr 0 0), (1, .d (.int .i64 bus_)), (2, .d (.sl false (closed_.map eInti64))), (8, .d (.int .i64 x78)), (13, .d (.sl false (closed_.map eInti64))), (14, .d (.int .i64 (closed_.length : Int))), (15, .d (.int .i64 v46)), (54, .d (.bool false)), (55, .ptr 0 0)]) (objs := [.box [.d (.cx .f32 g_.Feeder.Source.A.re g_.Feeder.Source.A.im), .d (.cx .f32 g_.Feeder.Source.B.re g_.Feeder.Source.B.im), .d (.cx .f32 g_.Feeder.Source.C.re g_.Feeder.Source.C.im), .d (.sl false (g_.Feeder.Buses.map eSBus)), .d (.sl false (g_.Ties.map eSTie))]]) rfl (by simp) rfl (by repeat' first | exact trivial | refine ⟨?_, ?_⟩) ⟨rfl, trivial, rfl, trivial, rfl, trivial, rfl, trivial, rfl, trivial, rfl, trivial, rfl, trivial, rfl, trivial, rfl, trivial, trivial⟩) ?_
                refine awl_val hτ rfl rfl rfl ?_
                refine awl_val hτ rfl rfl rfl ?_
                refine awl_val hτ rfl rfl rfl ?_
                refine awl_val hτ rfl rfl rfl ?_
                refine awl_elem hτ rfl rfl rfl (getI_some hx101).1 (map_getI hx101) rfl ?_
                refine awl_val hτ rfl rfl rfl ?_
                refine awl_val hτ rfl rfl rfl ?_
                refine awl_val hτ rfl rfl rfl ?_
                refine awl_val hτ (v := .d (.bool (decide (x101.B = bus_)))) rfl rfl (or_ieq _ _) ?_
                refine awl_val hτ rfl rfl rfl ?_
                refine awl_nil ?_
                refine aw_weak (weak_ofP [0] (l := [(0, .ptr 0 0), (1, .d (.int .i64 bus_)), (2, .d (.sl false (closed_.map eInti64))), (13, .d (.sl false (closed_.map eInti64))), (14, .d (.int .i64 (closed_.length : Int))), (15, .d (.int .i64 v46)), (65, .d (.bool (decide (x101.B = bus_))))]) (objs := [.box [.d (.cx .f32 g_.Feeder.Source.A.re g_.Feeder.Source.A.im), .d (.cx .f32 g_.Feeder.Source.B.re g_.Feeder.Source.B.im), .d (.cx .f32 g_.Feeder.Source.C.re g_.Feeder.Source.C.im), .d (.sl false (g_.Feeder.Buses.map eSBus)), .d (.sl false (g_.Ties.map eSTie))]]) rfl (by simp) rfl (by repeat' first | exact trivial | refine ⟨?_, ?_⟩) ⟨rfl, trivial, rfl, trivial, rfl, trivial, rfl, trivial, rfl, trivial, rfl, trivial, rfl, trivial, trivial⟩) ?_
                exact hk93 (decide (x101.B = bus_)) h
    · have h := if_f h hc63
      refine aw_exit ?_
      refine aw_seq ?_
      refine aw_region ?_
      refine awl_val hτ rfl rfl rfl ?_
      refine awl_nil ?_
      refine aw_weak (weak_ofP [0] (l := [(6, .d (.bool true))]) (objs := [.box [.d (.cx .f32 g_.Feeder.Source.A.re g_.Feeder.Source.A.im), .d (.cx .f32 g_.Feeder.Source.B.re g_.Feeder.Source.B.im), .d (.cx .f32 g_.Feeder.Source.C.re g_.Feeder.Source.C.im), .d (.sl false (g_.Feeder.Buses.map eSBus)), .d (.sl false (g_.Ties.map eSTie))]]) rfl (by simp) rfl (by repeat' first | exact trivial | refine ⟨?_, ?_⟩) ⟨rfl, trivial, trivial⟩) ?_
      refine aw_ret ?_
      have hr := Option.some.inj h
      subst hr
      exact ret_objs (.inr rfl) [] (objs' := [.box [.d (.cx .f32 g_.Feeder.Source.A.re g_.Feeder.Source.A.im), .d (.cx .f32 g_.Feeder.Source.B.re g_.Feeder.Source.B.im), .d (.cx .f32 g_.Feeder.Source.C.re g_.Feeder.Source.C.im), .d (.sl false (g_.Feeder.Buses.map eSBus)), .d (.sl false (g_.Ties.map eSTie))]]) (new := []) rfl (by simp) (by simp) rfl (by repeat' first | exact trivial | refine ⟨?_, ?_⟩) rfl rfl (by repeat' first | exact trivial | refine ⟨?_, ?_⟩) (fun h => nomatch h) ⟨rfl, rfl, rfl⟩

def m_impl_Grid_hung_1 (n : Nat) (a_ : Int) (b_ : Int) (a2_ : Int) : Option Int :=
  grd (0 ≤ a_) <|
  grd (0 ≤ b_) <|
  if (ibits .and .u64 (a2_.fdiv (2 ^ min a_.toNat (IntKind.bits .u64))) (1 : Int)) = (ibits .and .u64 (a2_.fdiv (2 ^ min b_.toNat (IntKind.bits .u64))) (1 : Int)) then
    some a2_
  else
    grd (0 ≤ a_) <|
    grd (0 ≤ b_) <|
    some (ibits .or .u64 a2_ (ibits .or .u64 (IntKind.wrap .u64 ((1 : Int) * 2 ^ min a_.toNat (IntKind.bits .u64))) (IntKind.wrap .u64 ((1 : Int) * 2 ^ min b_.toNat (IntKind.bits .u64)))))
theorem impl_Grid_hung_1_ok_fr0 (fr : Bool) (n : Nat) (a_ : Int) (b_ : Int) (a2_ : Int) {r : Int} (h : m_impl_Grid_hung_1 n a_ b_ a2_ = some r) : ACall prog fr 68 [.d (.int .i64 a_), .d (.int .i64 b_), .ptr 0 0] [.box [.d (.int .u64 a2_)]] (fun v o new => v = .tup [] ∧ o = [.box [.d (.int .u64 r)]] ∧ new = []) := by
  refine acall_of_aw hτ func68 rfl (by simp) (by simp) ?_
  unfold m_impl_Grid_hung_1 at h
  refine aw_seq ?_
  refine any_start ?_
  refine any_val hτ [0] 0 rfl rfl rfl rfl rfl ?_
  refine any_val hτ [] 1 rfl rfl rfl rfl rfl ?_
  refine grd_elim h fun hg6 h => ?_
  refine any_need hτ [] 2 rfl rfl rfl rfl rfl hg6 ?_
  refine any_val hτ [] 3 rfl rfl rfl rfl rfl ?_
  refine any_val hτ [0] 4 rfl rfl rfl rfl rfl ?_
  refine any_val hτ [] 5 rfl rfl rfl rfl rfl ?_
  refine grd_elim h fun hg7 h => ?_
  refine any_need hτ [] 6 rfl rfl rfl rfl rfl hg7 ?_
  refine any_val hτ [] 7 rfl rfl rfl rfl rfl ?_
  refine any_val hτ (v := .d (.bool (!(decide ((ibits .and .u64 (a2_.fdiv (2 ^ min a_.toNat (IntKind.bits .u64))) (1 : Int)) = (ibits .and .u64 (a2_.fdiv (2 ^ min b_.toNat (IntKind.bits .u64))) (1 : Int))))))) [] 8 rfl rfl rfl rfl (or_ine _ _) ?_
  refine any_done mixed (by kernel_rfl) ?_
  refine aw_weak (weak_ofP [0] (l := [(0, .d (.int .i64 a_)), (1, .d (.int .i64 b_)), (2, .ptr 0 0), (13, .d (.bool (!(decide ((ibits .and .u64 (a2_.fdiv (2 ^ min a_.toNat (IntKind.bits .u64))) (1 : Int)) = (ibits .and .u64 (a2_.fdiv (2 ^ min b_.toNat (IntKind.bits .u64))) (1 : Int)))))))]) (objs := [.box [.d (.int .u64 a2_)]]) rfl (by simp) rfl (by repeat' first | exact trivial | refine ⟨?_, ?_⟩) ⟨rfl, trivial, rfl, trivial, rfl, trivial, rfl, trivial, trivial⟩) ?_
  refine aw_cond rfl (fun hc8 => ?_) (fun hc8 => ?_)
  · have hc8 := not_t hc8
    have h := if_f h hc8
    refine any_start ?_
    refine any_val hτ [0] 0 rfl rfl rfl rfl rfl ?_
    refine any_val hτ [] 1 rfl rfl rfl rfl rfl ?_
    refine grd_elim h fun hg9 h => ?_
    refine any_need hτ [] 2 rfl rfl rfl rfl rfl hg9 ?_
    refine any_val hτ [] 3 rfl rfl rfl rfl rfl ?_
    refine grd_elim h fun hg10 h => ?_
    refine any_need hτ [] 4 rfl rfl rfl rfl rfl hg10 ?_
    refine any_val hτ [] 5 rfl rfl rfl rfl rfl ?_
    refine any_val hτ [] 6 rfl rfl rfl rfl rfl ?_
    refine any_valHP hτ [] 7 rfl rfl rfl rfl trivial ?_
    refine any_done mixed (by kernel_rfl) ?_
    have hr := Option.some.inj h
    subst hr
    exact ret_objs (.inl rfl) [] (objs' := [.box [.d (.int .u64 (ibits .or .u64 a2_ (ibits .or .u64 (IntKind.wrap .u64 ((1 : Int) * 2 ^ min a_.toNat (IntKind.bits .u64))) (IntKind.wrap .u64 ((1 : Int) * 2 ^ min b_.toNat (IntKind.bits .u64))))))]]) (new := []) rfl (by simp) (by simp) rfl (by repeat' first | exact trivial | refine ⟨?_, ?_⟩) rfl rfl (by repeat' first | exact trivial | refine ⟨?_, ?_⟩) (fun _ => ⟨by simp [V.flat, V.flatA, V.flatC, D.flat], (flat_cons (by simp [AObj.flat, V.flatC, D.flat]) flat_nil)⟩) ⟨rfl, rfl, rfl⟩
  · have hc8 := not_f hc8
    have h := if_t h hc8
    refine aw_skip ?_
    have hr := Option.some.inj h
    subst hr
    exact ret_objs (.inl rfl) [] (objs' := [.box [.d (.int .u64 a2_)]]) (new := []) rfl (by simp) (by simp) rfl (by repeat' first | exact trivial | refine ⟨?_, ?_⟩) rfl rfl (by repeat' first | exact trivial | refine ⟨?_, ?_⟩) (fun _ => ⟨by simp [V.flat, V.flatA, V.flatC, D.flat], (flat_cons (by simp [AObj.flat, V.flatC, D.flat]) flat_nil)⟩) ⟨rfl, rfl, rfl⟩
theorem impl_Grid_hung_1_ok (n : Nat) (a_ : Int) (b_ : Int) (a2_ : Int) {r : Int} (h : m_impl_Grid_hung_1 n a_ b_ a2_ = some r) : ACall prog false 68 [.d (.int .i64 a_), .d (.int .i64 b_), .ptr 0 0] [.box [.d (.int .u64 a2_)]] (fun v o new => v = .tup [] ∧ o = [.box [.d (.int .u64 r)]] ∧ new = []) := impl_Grid_hung_1_ok_fr0 false n a_ b_ a2_ h
theorem impl_Grid_hung_1_ok_fr (n : Nat) (a_ : Int) (b_ : Int) (a2_ : Int) {r : Int} (h : m_impl_Grid_hung_1 n a_ b_ a2_ = some r) : ACall prog true 68 [.d (.int .i64 a_), .d (.int .i64 b_), .ptr 0 0] [.box [.d (.int .u64 a2_)]] (fun v o new => v = .tup [] ∧ o = [.box [.d (.int .u64 r)]] ∧ new = []) := impl_Grid_hung_1_ok_fr0 true n a_ b_ a2_ h

def m_impl_Grid_hung_j1 (n : Nat) (v123 : Int) : Option Int :=
  some v123
def m_impl_Grid_hung_j3 (n : Nat) (k186 : Int → Int → Option Int) (v154 : Int) (v216 : Int) : Option Int :=
  k186 v216 (w64 (v154 + (1 : Int)))
def m_impl_Grid_hung_l5 (n : Nat) (g_ : SGrid) (ties_ : List Int) (k186 : Int → Int → Option Int) (v154 : Int) : Nat → Int → Int → Option Int
  | 0, _, _ => none
  | m247 + 1, v240, v241 =>
    if v241 < (ties_.length : Int) then
      (getI ties_ v241).bind fun x250 =>
      (getI g_.Ties x250).bind fun x251 =>
      (m_impl_Grid_hung_1 n x251.A x251.B v240).bind fun x252 =>
      (m_impl_Grid_hung_l5 n g_ ties_ k186 v154 m247) x252 (w64 (v241 + (1 : Int)))
    else
      m_impl_Grid_hung_j3 n k186 v154 v240
def m_impl_Grid_hung_j4 (n : Nat) (g_ : SGrid) (ties_ : List Int) (k186 : Int → Int → Option Int) (v154 : Int) (v236 : Int) : Option Int :=
  m_impl_Grid_hung_l5 n g_ ties_ k186 v154 n v236 (0 : Int)
def m_impl_Grid_hung_j7 (n : Nat) (k273 : Int → Int → Option Int) (v262 : Int) (v282 : Int) : Option Int :=
  k273 v282 (w64 (v262 + (1 : Int)))
def m_impl_Grid_hung_j8 (n : Nat) (k273 : Int → Int → Option Int) (v261 : Int) (v262 : Int) (x284 : SBus) (v289 : Bool) : Option Int :=
  if v289 = true then
    (m_impl_Grid_hung_1 n v262 x284.Parent v261).bind fun x291 =>
    m_impl_Grid_hung_j7 n k273 v262 x291
  else
    m_impl_Grid_hung_j7 n k273 v262 v261
def m_impl_Grid_hung_l6 (n : Nat) (g_ : SGrid) (bus_ : Int) (ties_ : List Int) (k186 : Int → Int → Option Int) (v154 : Int) : Nat → Int → Int → Option Int
  | 0, _, _ => none
  | m272 + 1, v261, v262 =>
    if v262 < (g_.Feeder.Buses.length : Int) then
      (getI g_.Feeder.Buses v262).bind fun x284 =>
      if v262 > (0 : Int) then
        if v262 = bus_ then
          m_impl_Grid_hung_j8 n (m_impl_Grid_hung_l6 n g_ bus_ ties_ k186 v154 m272) v261 v262 x284 false
        else
          m_impl_Grid_hung_j8 n (m_impl_Grid_hung_l6 n g_ bus_ ties_ k186 v154 m272) v261 v262 x284 (!(decide (x284.Parent = bus_)))
      else
        m_impl_Grid_hung_j8 n (m_impl_Grid_hung_l6 n g_ bus_ ties_ k186 v154 m272) v261 v262 x284 false
    else
      m_impl_Grid_hung_j4 n g_ ties_ k186 v154 v261
def m_impl_Grid_hung_l2 (n : Nat) (g_ : SGrid) (bus_ : Int) (ties_ : List Int) : Nat → Int → Int → Option Int
  | 0, _, _ => none
  | m185 + 1, v153, v154 =>
    if v154 < (g_.Feeder.Buses.length : Int) then
      m_impl_Grid_hung_l6 n g_ bus_ ties_ (m_impl_Grid_hung_l2 n g_ bus_ ties_ m185) v154 n v153 (0 : Int)
    else
      m_impl_Grid_hung_j1 n v153
def m_impl_Grid_hung (n : Nat) (g_ : SGrid) (bus_ : Int) (ties_ : List Int) (from_ : Int) : Option Int :=
  grd (0 ≤ from_) <|
  m_impl_Grid_hung_l2 n g_ bus_ ties_ n (IntKind.wrap .u64 ((1 : Int) * 2 ^ min from_.toNat (IntKind.bits .u64))) (0 : Int)
theorem impl_Grid_hung_ok (n : Nat) (g_ : SGrid) (bus_ : Int) (ties_ : List Int) (from_ : Int) {r : Int} (h : m_impl_Grid_hung n g_ bus_ ties_ from_ = some r) : ACall prog false 40 [.ptr 0 0, .d (.int .i64 bus_), .d (.sl false (ties_.map eInti64)), .d (.int .i64 from_)] [.box [.d (.cx .f32 g_.Feeder.Source.A.re g_.Feeder.Source.A.im), .d (.cx .f32 g_.Feeder.Source.B.re g_.Feeder.Source.B.im), .d (.cx .f32 g_.Feeder.Source.C.re g_.Feeder.Source.C.im), .d (.sl false (g_.Feeder.Buses.map eSBus)), .d (.sl false (g_.Ties.map eSTie))]] (fun v o new => v = .d (.int .u64 r) ∧ o = [.box [.d (.cx .f32 g_.Feeder.Source.A.re g_.Feeder.Source.A.im), .d (.cx .f32 g_.Feeder.Source.B.re g_.Feeder.Source.B.im), .d (.cx .f32 g_.Feeder.Source.C.re g_.Feeder.Source.C.im), .d (.sl false (g_.Feeder.Buses.map eSBus)), .d (.sl false (g_.Ties.map eSTie))]] ∧ new = []) := by
  refine acall_of_aw hτ func40 rfl (by simp) (by simp) ?_
  unfold m_impl_Grid_hung at h
  refine aw_seq ?_
  refine aw_region ?_
  refine awl_val hτ rfl rfl rfl ?_
  refine awl_nil ?_
  refine aw_seq ?_
  refine aw_region ?_
  refine awl_val hτ rfl rfl rfl ?_
  refine grd_elim h fun hg62 h => ?_
  refine awl_need hτ rfl rfl rfl hg62 ?_
  refine awl_valH hτ rfl rfl rfl ?_
  refine awl_valH hτ rfl rfl rfl ?_
  refine awl_nil ?_
  refine aw_seq ?_
  refine aw_region ?_
  refine awl_val hτ rfl rfl rfl ?_
  refine awl_val hτ rfl rfl rfl ?_
  refine awl_nil ?_
  refine aw_hk1 (ι := Int) (fun v123 => St.of [(9, .ptr 1 0)] [.box [.d (.cx .f32 g_.Feeder.Source.A.re g_.Feeder.Source.A.im), .d (.cx .f32 g_.Feeder.Source.B.re g_.Feeder.Source.B.im), .d (.cx .f32 g_.Feeder.Source.C.re g_.Feeder.Source.C.im), .d (.sl false (g_.Feeder.Buses.map eSBus)), .d (.sl false (g_.Ties.map eSTie))], .box [.d (.int .u64 v123)]] f40.ntmps 1) (fun v123 => m_impl_Grid_hung_j1 n v123 = some r) ?_ (fun hk124 => ?_)
  · rintro v123 h
    replace h : m_impl_Grid_hung_j1 n v123 = some r := h
    unfold m_impl_Grid_hung_j1 at h
    refine aw_seq ?_
    refine aw_region ?_
    refine awl_val hτ rfl rfl rfl ?_
    refine awl_val hτ rfl rfl rfl ?_
    refine awl_nil ?_
    refine aw_weak (weak_ofP [0] (l := [(8, .d (.int .u64 v123))]) (objs := [.box [.d (.cx .f32 g_.Feeder.Source.A.re g_.Feeder.Source.A.im), .d (.cx .f32 g_.Feeder.Source.B.re g_.Feeder.Source.B.im), .d (.cx .f32 g_.Feeder.Source.C.re g_.Feeder.Source.C.im), .d (.sl false (g_.Feeder.Buses.map eSBus)), .d (.sl false (g_.Ties.map eSTie))]]) rfl (by simp) rfl (by repeat' first | exact trivial | refine ⟨?_, ?_⟩) ⟨rfl, trivial, trivial⟩) ?_
    refine aw_ret ?_
    have hr := Option.some.inj h
    subst hr
    exact ret_objs (.inr rfl) [] (objs' := [.box [.d (.cx .f32 g_.Feeder.Source.A.re g_.Feeder.Source.A.im), .d (.cx .f32 g_.Feeder.Source.B.re g_.Feeder.Source.B.im), .d (.cx .f32 g_.Feeder.Source.C.re g_.Feeder.Source.C.im), .d (.sl false (g_.Feeder.Buses.map eSBus)), .d (.sl false (g_.Ties.map eSTie))]]) (new := []) rfl (by simp) (by simp) rfl (by repeat' first | exact trivial | refine ⟨?_, ?_⟩) rfl rfl (by repeat' first | exact trivial | refine ⟨?_, ?_⟩) (fun h => nomatch h) ⟨rfl, rfl, rfl⟩
  · refine aw_seq ?_
    refine aw_seq ?_
    refine aw_weak (weak_ofP [0, 1] (l := [(0, .ptr 0 0), (1, .d (.int .i64 bus_)), (2, .d (.sl false (ties_.map eInti64))), (9, .ptr 1 0), (10, .func 68 [] [.ptr 1 0])]) (objs := [.box [.d (.cx .f32 g_.Feeder.Source.A.re g_.Feeder.Source.A.im), .d (.cx .f32 g_.Feeder.Source.B.re g_.Feeder.Source.B.im), .d (.cx .f32 g_.Feeder.Source.C.re g_.Feeder.Source.C.im), .d (.sl false (g_.Feeder.Buses.map eSBus)), .d (.sl false (g_.Ties.map eSTie))], .box [.d (.int .u64 (IntKind.wrap .u64 ((1 : Int) * 2 ^ min from_.toNat (IntKind.bits .u64))))]]) rfl (by simp) rfl (by repeat' first | exact trivial | refine ⟨?_, ?_⟩) ⟨rfl, trivial, rfl, trivial, rfl, trivial, rfl, trivial, rfl, (by repeat' first | exact trivial | refine ⟨?_, ?_⟩), trivial⟩) ?_
    refine aw_region ?_
    refine awl_val hτ rfl rfl rfl ?_
    refine awl_val hτ rfl rfl rfl ?_
    refine awl_val hτ rfl rfl rfl ?_
    refine awl_val hτ rfl rfl rfl ?_
    refine awl_val hτ rfl rfl rfl ?_
    refine awl_val hτ (v := .d (.int .i64 (g_.Feeder.Buses.length : Int))) rfl rfl (Eq.trans rfl (or_len (f := eSBus) g_.Feeder.Buses)) ?_
    refine awl_val hτ rfl rfl rfl ?_
    refine awl_nil ?_
    refine aw_block ?_
    refine aw_loop (ι := Nat × Int × Int) (fun (m185, v153, v154) => St.of [(0, .ptr 0 0), (1, .d (.int .i64 bus_)), (2, .d (.sl false (ties_.map eInti64))), (9, .ptr 1 0), (10, .func 68 [] [.ptr 1 0]), (23, .d (.int .i64 (g_.Feeder.Buses.length : Int))), (24, .d (.int .i64 v154))] [.box [.d (.cx .f32 g_.Feeder.Source.A.re g_.Feeder.Source.A.im), .d (.cx .f32 g_.Feeder.Source.B.re g_.Feeder.Source.B.im), .d (.cx .f32 g_.Feeder.Source.C.re g_.Feeder.Source.C.im), .d (.sl false (g_.Feeder.Buses.map eSBus)), .d (.sl false (g_.Ties.map eSTie))], .box [.d (.int .u64 v153)]] f40.ntmps 1) (fun (m185, v153, v154) => m_impl_Grid_hung_l2 n g_ bus_ ties_ m185 v153 v154 = some r) (fun x => x.1) (n, (IntKind.wrap .u64 ((1 : Int) * 2 ^ min from_.toNat (IntKind.bits .u64))), (0 : Int)) h (weak_ofP [0, 1] (l := [(0, .ptr 0 0), (1, .d (.int .i64 bus_)), (2, .d (.sl false (ties_.map eInti64))), (9, .ptr 1 0), (10, .func 68 [] [.ptr 1 0]), (23, .d (.int .i64 (g_.Feeder.Buses.length : Int))), (24, .d (.int .i64 (0 : Int)))]) (objs := [.box [.d (.cx .f32 g_.Feeder.Source.A.re g_.Feeder.Source.A.im), .d (.cx .f32 g_.Feeder.Source.B.re g_.Feeder.Source.B.im), .d (.cx .f32 g_.Feeder.Source.C.re g_.Feeder.Source.C.im), .d (.sl false (g_.Feeder.Buses.map eSBus)), .d (.sl false (g_.Ties.map eSTie))], .box [.d (.int .u64 (IntKind.wrap .u64 ((1 : Int) * 2 ^ min from_.toNat (IntKind.bits .u64))))]]) rfl (by simp) rfl (by repeat' first | exact trivial | refine ⟨?_, ?_⟩) ⟨rfl, trivial, rfl, trivial, rfl, trivial, rfl, trivial, rfl, (by repeat' first | exact trivial | refine ⟨?_, ?_⟩), rfl, trivial, rfl, trivial, trivial⟩) ?_
    rintro ⟨m185, v153, v154⟩ h
    replace h : m_impl_Grid_hung_l2 n g_ bus_ ties_ m185 v153 v154 = some r := h
    rcases m185 with _ | m185
    · rw [m_impl_Grid_hung_l2] at h; cases h
    rw [m_impl_Grid_hung_l2] at h
    refine aw_seq ?_
    refine aw_region ?_
    refine awl_val hτ rfl rfl rfl ?_
    refine awl_nil ?_
    refine aw_seq ?_
    refine aw_cond rfl (fun hc187 => ?_) (fun hc187 => ?_)
    · have h := if_t h hc187
      refine aw_skip ?_
      refine aw_hk1 (ι := Int) (fun v216 => St.of [(0, .ptr 0 0), (1, .d (.int .i64 bus_)), (2, .d (.sl false (ties_.map eInti64))), (9, .ptr 1 0), (10, .func 68 [] [.ptr 1 0]), (23, .d (.int .i64 (g_.Feeder.Buses.length : Int))), (24, .d (.int .i64 v154))] [.box [.d (.cx .f32 g_.Feeder.Source.A.re g_.Feeder.Source.A.im), .d (.cx .f32 g_.Feeder.Source.B.re g_.Feeder.Source.B.im), .d (.cx .f32 g_.Feeder.Source.C.re g_.Feeder.Source.C.im), .d (.sl false (g_.Feeder.Buses.map eSBus)), .d (.sl false (g_.Ties.map eSTie))], .box [.d (.int .u64 v216)]] f40.ntmps 1) (fun v216 => m_impl_Grid_hung_j3 n (m_impl_Grid_hung_l2 n g_ bus_ ties_ m185) v154 v216 = some r) ?_ (fun hk217 => ?_)
      · rintro v216 h
        replace h : m_impl_Grid_hung_j3 n (m_impl_Grid_hung_l2 n g_ bus_ ties_ m185) v154 v216 = some r := h
        unfold m_impl_Grid_hung_j3 at h
        refine aw_region ?_
        refine awl_val hτ rfl rfl rfl ?_
        refine awl_val hτ rfl rfl rfl ?_
        refine awl_nil ?_
        exact ⟨(m185, v216, (w64 (v154 + (1 : Int)))), h, Nat.lt_succ_self m185, (weak_ofP [0, 1] (l := [(0, .ptr 0 0), (1, .d (.int .i64 bus_)), (2, .d (.sl false (ties_.map eInti64))), (9, .ptr 1 0), (10, .func 68 [] [.ptr 1 0]), (23, .d (.int .i64 (g_.Feeder.Buses.length : Int))), (24, .d (.int .i64 (w64 (v154 + (1 : Int)))))]) (objs := [.box [.d (.cx .f32 g_.Feeder.Source.A.re g_.Feeder.Source.A.im), .d (.cx .f32 g_.Feeder.Source.B.re g_.Feeder.Source.B.im), .d (.cx .f32 g_.Feeder.Source.C.re g_.Feeder.Source.C.im), .d (.sl false (g_.Feeder.Buses.map eSBus)), .d (.sl false (g_.Ties.map eSTie))], .box [.d (.int .u64 v216)]]) rfl (by simp) rfl (by repeat' first | exact trivial | refine ⟨?_, ?_⟩) ⟨rfl, trivial, rfl, trivial, rfl, trivial, rfl, trivial, rfl, (by repeat' first | exact trivial | refine ⟨?_, ?_⟩), rfl, trivial, rfl, trivial, trivial⟩)⟩
      · refine aw_seq ?_
        refine aw_block ?_
        refine aw_hk1 (ι := Int) (fun v236 => St.of [(0, .ptr 0 0), (1, .d (.int .i64 bus_)), (2, .d (.sl false (ties_.map eInti64))), (9, .ptr 1 0), (10, .func 68 [] [.ptr 1 0]), (23, .d (.int .i64 (g_.Feeder.Buses.length : Int))), (24, .d (.int .i64 v154))] [.box [.d (.cx .f32 g_.Feeder.Source.A.re g_.Feeder.Source.A.im), .d (.cx .f32 g_.Feeder.Source.B.re g_.Feeder.Source.B.im), .d (.cx .f32 g_.Feeder.Source.C.re g_.Feeder.Source.C.im), .d (.sl false (g_.Feeder.Buses.map eSBus)), .d (.sl false (g_.Ties.map eSTie))], .box [.d (.int .u64 v236)]] f40.ntmps 1) (fun v236 => m_impl_Grid_hung_j4 n g_ ties_ (m_impl_Grid_hung_l2 n g_ bus_ ties_ m185) v154 v236 = some r) ?_ (fun hk253 => ?_)
        · rintro v236 h
          replace h : m_impl_Grid_hung_j4 n g_ ties_ (m_impl_Grid_hung_l2 n g_ bus_ ties_ m185) v154 v236 = some r := h
          unfold m_impl_Grid_hung_j4 at h
          refine aw_seq ?_
          refine aw_region ?_
          refine awl_val hτ rfl rfl rfl ?_
          refine awl_val hτ (v := .d (.int .i64 (ties_.length : Int))) rfl rfl (Eq.trans rfl (or_len (f := eInti64) ties_)) ?_
          refine awl_val hτ rfl rfl rfl ?_
          refine awl_nil ?_
          refine aw_block ?_
          refine aw_loop (ι := Nat × Int × Int) (fun (m247, v240, v241) => St.of [(0, .ptr 0 0), (1, .d (.int .i64 bus_)), (2, .d (.sl false (ties_.map eInti64))), (9, .ptr 1 0), (10, .func 68 [] [.ptr 1 0]), (23, .d (.int .i64 (g_.Feeder.Buses.length : Int))), (24, .d (.int .i64 v154)), (56, .d (.sl false (ties_.map eInti64))), (57, .d (.int .i64 (ties_.length : Int))), (58, .d (.int .i64 v241))] [.box [.d (.cx .f32 g_.Feeder.Source.A.re g_.Feeder.Source.A.im), .d (.cx .f32 g_.Feeder.Source.B.re g_.Feeder.Source.B.im), .d (.cx .f32 g_.Feeder.Source.C.re g_.Feeder.Source.C.im), .d (.sl false (g_.Feeder.Buses.map eSBus)), .d (.sl false (g_.Ties.map eSTie))], .box [.d (.int .u64 v240)]] f40.ntmps 1) (fun (m247, v240, v241) => m_impl_Grid_hung_l5 n g_ ties_ (m_impl_Grid_hung_l2 n g_ bus_ ties_ m185) v154 m247 v240 v241 = some r) (fun x => x.1) (n, v236, (0 : Int)) h (weak_ofP [0, 1] (l := [(0, .ptr 0 0), (1, .d (.int .i64 bus_)), (2, .d (.sl false (ties_.map eInti64))), (9, .ptr 1 0), (10, .func 68 [] [.ptr 1 0]), (23, .d (.int .i64 (g_.Feeder.Buses.length : Int))), (24, .d (.int .i64 v154)), (56, .d (.sl false (ties_.map eInti64))), (57, .d (.int .i64 (ties_.length : Int))), (58, .d (.int .i64 (0 : Int)))]) (objs := [.box [.d (.cx .f32 g_.Feeder.Source.A.re g_.Feeder.Source.A.im), .d (.cx .f32 g_.Feeder.Source.B.re g_.Feeder.Source.B.im), .d (.cx .f32 g_.Feeder.Source.C.re g_.Feeder.Source.C.im), .d (.sl false (g_.Feeder.Buses.map eSBus)), .d (.sl false (g_.Ties.map eSTie))], .box [.d (.int .u64 v236)]]) rfl (by simp) rfl (by repeat' first | exact trivial | refine ⟨?_, ?_⟩) ⟨rfl, trivial, rfl, trivial, rfl, trivial, rfl, trivial, rfl, (by repeat' first | exact trivial | refine ⟨?_, ?_⟩), rfl, trivial, rfl, trivial, rfl, trivial, rfl, trivial, rfl, trivial, trivial⟩) ?_
          rintro ⟨m247, v240, v241⟩ h
          replace h : m_impl_Grid_hung_l5 n g_ ties_ (m_impl_Grid_hung_l2 n g_ bus_ ties_ m185) v154 m247 v240 v241 = some r := h
          rcases m247 with _ | m247
          · rw [m_impl_Grid_hung_l5] at h; cases h
          rw [m_impl_Grid_hung_l5] at h
          refine aw_seq ?_
          refine aw_region ?_
          refine awl_val hτ rfl rfl rfl ?_
          refine awl_nil ?_
          refine aw_seq ?_
          refine aw_cond rfl (fun hc249 => ?_) (fun hc249 => ?_)
          · have h := if_t h hc249
            refine aw_skip ?_
            refine aw_seq ?_
            refine aw_block ?_
            refine aw_seq ?_
            refine aw_region ?_
            refine bnd_elim h fun x250 hx250 h => ?_
            refine awl_elem hτ rfl rfl rfl (getI_some hx250).1 (map_getI hx250) rfl ?_
            refine awl_val hτ rfl rfl rfl ?_
            refine awl_val hτ rfl rfl rfl ?_
            refine awl_nil ?_
            refine any_start ?_
            refine any_val hτ [] 0 rfl rfl rfl rfl rfl ?_
            refine any_val hτ [] 1 rfl rfl rfl rfl rfl ?_
            refine any_val hτ [] 2 rfl rfl rfl rfl rfl ?_
            refine any_val hτ [0] 3 rfl rfl rfl rfl rfl ?_
            refine any_val hτ [0] 4 rfl rfl rfl rfl rfl ?_
            refine any_val hτ [] 5 rfl rfl rfl rfl rfl ?_
            refine bnd_elim h fun x251 hx251 h => ?_
            refine any_elem hτ [] 6 rfl rfl rfl rfl rfl (getI_some hx251).1 (map_getI hx251) rfl ?_
            refine any_val hτ [] 7 rfl rfl rfl rfl rfl ?_
            refine any_val hτ [] 8 rfl rfl rfl rfl rfl ?_
            refine any_val hτ [] 9 rfl rfl rfl rfl rfl ?_
            refine any_val hτ [] 10 rfl rfl rfl rfl rfl ?_
            refine any_val hτ [0] 11 rfl rfl rfl rfl rfl ?_
            refine any_val hτ [0] 12 rfl rfl rfl rfl rfl ?_
            refine any_val hτ [] 13 rfl rfl rfl rfl rfl ?_
            refine any_elem hτ [] 14 rfl rfl rfl rfl rfl (getI_some hx251).1 (map_getI hx251) rfl ?_
            refine any_val hτ [] 15 rfl rfl rfl rfl rfl ?_
            refine any_val hτ [] 16 rfl rfl rfl rfl rfl ?_
            refine bnd_elim h fun x252 hx252 h => ?_
            refine any_callP hτ false [1] [0] 17 rfl rfl rfl rfl (enterOk func68 rfl rfl) rfl rfl (by simp) ⟨trivial, trivial, trivial, trivial⟩ (by repeat' first | exact trivial | refine ⟨?_, ?_⟩) (impl_Grid_hung_1_ok n x251.A x251.B v240 hx252) ⟨rfl, trivial⟩ ?_
            refine any_done mixed (by kernel_rfl) ?_
            refine aw_weak (weak_ofP [0, 1] (l := [(0, .ptr 0 0), (1, .d (.int .i64 bus_)), (2, .d (.sl false (ties_.map eInti64))), (9, .ptr 1 0), (10, .func 68 [] [.ptr 1 0]), (23, .d (.int .i64 (g_.Feeder.Buses.length : Int))), (24, .d (.int .i64 v154)), (56, .d (.sl false (ties_.map eInti64))), (57, .d (.int .i64 (ties_.length : Int))), (58, .d (.int .i64 v241))]) (objs := [.box [.d (.cx .f32 g_.Feeder.Source.A.re g_.Feeder.Source.A.im), .d (.cx .f32 g_.Feeder.Source.B.re g_.Feeder.Source.B.im), .d (.cx .f32 g_.Feeder.Source.C.re g_.Feeder.Source.C.im), .d (.sl false (g_.Feeder.Buses.map eSBus)), .d (.sl false (g_.Ties.map eSTie))], .box [.d (.int .u64 x252)]]) rfl (by simp) rfl (by repeat' first | exact trivial | refine ⟨?_, ?_⟩) ⟨rfl, trivial, rfl, trivial, rfl, trivial, rfl, trivial, rfl, (by repeat' first | exact trivial | refine ⟨?_, ?_⟩), rfl, trivial, rfl, trivial, rfl, trivial, rfl, trivial, rfl, trivial, trivial⟩) ?_
            refine aw_region ?_
            refine awl_val hτ rfl rfl rfl ?_
            refine awl_val hτ rfl rfl rfl ?_
            refine awl_nil ?_
            exact ⟨(m247, x252, (w64 (v241 + (1 : Int)))), h, Nat.lt_succ_self m247, (weak_ofP [0, 1] (l := [(0, .ptr 0 0), (1, .d (.int .i64 bus_)), (2, .d (.sl false (ties_.map eInti64))), (9, .ptr 1 0), (10, .func 68 [] [.ptr 1 0]), (23, .d (.int .i64 (g_.Feeder.Buses.length : Int))), (24, .d (.int .i64 v154)), (56, .d (.sl false (ties_.map eInti64))), (57, .d (.int .i64 (ties_.length : Int))), (58, .d (.int .i64 (w64 (v241 + (1 : Int)))))]) (objs := [.box [.d (.cx .f32 g_.Feeder.Source.A.re g_.Feeder.Source.A.im), .d (.cx .f32 g_.Feeder.Source.B.re g_.Feeder.Source.B.im), .d (.cx .f32 g_.Feeder.Source.C.re g_.Feeder.Source.C.im), .d (.sl false (g_.Feeder.Buses.map eSBus)), .d (.sl false (g_.Ties.map eSTie))], .box [.d (.int .u64 x252)]]) rfl (by simp) rfl (by repeat' first | exact trivial | refine ⟨?_, ?_⟩) ⟨rfl, trivial, rfl, trivial, rfl, trivial, rfl, trivial, rfl, (by repeat' first | exact trivial | refine ⟨?_, ?_⟩), rfl, trivial, rfl, trivial, rfl, trivial, rfl, trivial, rfl, trivial, trivial⟩)⟩
          · have h := if_f h hc249
            refine aw_exit ?_
            refine aw_weak (weak_ofP [0, 1] (l := [(0, .ptr 0 0), (1, .d (.int .i64 bus_)), (2, .d (.sl false (ties_.map eInti64))), (9, .ptr 1 0), (10, .func 68 [] [.ptr 1 0]), (23, .d (.int .i64 (g_.Feeder.Buses.length : Int))), (24, .d (.int .i64 v154))]) (objs := [.box [.d (.cx .f32 g_.Feeder.Source.A.re g_.Feeder.Source.A.im), .d (.cx .f32 g_.Feeder.Source.B.re g_.Feeder.Source.B.im), .d (.cx .f32 g_.Feeder.Source.C.re g_.Feeder.Source.C.im), .d (.sl false (g_.Feeder.Buses.map eSBus)), .d (.sl false (g_.Ties.map eSTie))], .box [.d (.int .u64 v240)]]) rfl (by simp) rfl (by repeat' first | exact trivial | refine ⟨?_, ?_⟩) ⟨rfl, trivial, rfl, trivial, rfl, trivial, rfl, trivial, rfl, (by repeat' first | exact trivial | refine ⟨?_, ?_⟩), rfl, trivial, rfl, trivial, trivial⟩) ?_
            exact hk217 v240 h
        · refine aw_seq ?_
          refine aw_seq ?_
          refine aw_region ?_
          refine awl_val hτ rfl rfl rfl ?_
          refine awl_val hτ rfl rfl rfl ?_
          refine awl_val hτ rfl rfl rfl ?_
          refine awl_val hτ rfl rfl rfl ?_
          refine awl_val hτ rfl rfl rfl ?_
          refine awl_val hτ (v := .d (.int .i64 (g_.Feeder.Buses.length : Int))) rfl rfl (Eq.trans rfl (or_len (f := eSBus) g_.Feeder.Buses)) ?_
          refine awl_val hτ rfl rfl rfl ?_
          refine awl_nil ?_
          refine aw_block ?_
          refine aw_loop (ι := Nat × Int × Int) (fun (m272, v261, v262) => St.of [(0, .ptr 0 0), (1, .d (.int .i64 bus_)), (2, .d (.sl false (ties_.map eInti64))), (9, .ptr 1 0), (10, .func 68 [] [.ptr 1 0]), (23, .d (.int .i64 (g_.Feeder.Buses.length : Int))), (24, .d (.int .i64 v154)), (30, .d (.sl false (g_.Feeder.Buses.map eSBus))), (31, .d (.int .i64 (g_.Feeder.Buses.length : Int))), (32, .d (.int .i64 v262))] [.box [.d (.cx .f32 g_.Feeder.Source.A.re g_.Feeder.Source.A.im), .d (.cx .f32 g_.Feeder.Source.B.re g_.Feeder.Source.B.im), .d (.cx .f32 g_.Feeder.Source.C.re g_.Feeder.Source.C.im), .d (.sl false (g_.Feeder.Buses.map eSBus)), .d (.sl false (g_.Ties.map eSTie))], .box [.d (.int .u64 v261)]] f40.ntmps 1) (fun (m272, v261, v262) => m_impl_Grid_hung_l6 n g_ bus_ ties_ (m_impl_Grid_hung_l2 n g_ bus_ ties_ m185) v154 m272 v261 v262 = some r) (fun x => x.1) (n, v153, (0 : Int)) h (weak_ofP [0, 1] (l := [(0, .ptr 0 0), (1, .d (.int .i64 bus_)), (2, .d (.sl false (ties_.map eInti64))), (9, .ptr 1 0), (10, .func 68 [] [.ptr 1 0]), (23, .d (.int .i64 (g_.Feeder.Buses.length : Int))), (24, .d (.int .i64 v154)), (30, .d (.sl false (g_.Feeder.Buses.map eSBus))), (31, .d (.int .i64 (g_.Feeder.Buses.length : Int))), (32, .d (.int .i64 (0 : Int)))]) (objs := [.box [.d (.cx .f32 g_.Feeder.Source.A.re g_.Feeder.Source.A.im), .d (.cx .f32 g_.Feeder.Source.B.re g_.Feeder.Source.B.im), .d (.cx .f32 g_.Feeder.Source.C.re g_.Feeder.Source.C.im), .d (.sl false (g_.Feeder.Buses.map eSBus)), .d (.sl false (g_.Ties.map eSTie))], .box [.d (.int .u64 v153)]]) rfl (by simp) rfl (by repeat' first | exact trivial | refine ⟨?_, ?_⟩) ⟨rfl, trivial, rfl, trivial, rfl, trivial, rfl, trivial, rfl, (by repeat' first | exact trivial | refine ⟨?_, ?_⟩), rfl, trivial, rfl, trivial, rfl, trivial, rfl, trivial, rfl, trivial, trivial⟩) ?_
          rintro ⟨m272, v261, v262⟩ h
          replace h : m_impl_Grid_hung_l6 n g_ bus_ ties_ (m_impl_Grid_hung_l2 n g_ bus_ ties_ m185) v154 m272 v261 v262 = some r := h
          rcases m272 with _ | m272
          · rw [m_impl_Grid_hung_l6] at h; cases h
          rw [m_impl_Grid_hung_l6] at h
          refine aw_seq ?_
          refine aw_region ?_
          refine awl_val hτ rfl rfl rfl ?_
          refine awl_nil ?_
          refine aw_seq ?_
          refine aw_cond rfl (fun hc274 => ?_) (fun hc274 => ?_)
          · have h := if_t h hc274
            refine aw_skip ?_
            refine aw_hk1 (ι := Int) (fun v282 => St.of [(0, .ptr 0 0), (1, .d (.int .i64 bus_)), (2, .d (.sl false (ties_.map eInti64))), (9, .ptr 1 0), (10, .func 68 [] [.ptr 1 0]), (23, .d (.int .i64 (g_.Feeder.Buses.length : Int))), (24, .d (.int .i64 v154)), (30, .d (.sl false (g_.Feeder.Buses.map eSBus))), (31, .d (.int .i64 (g_.Feeder.Buses.length : Int))), (32, .d (.int .i64 v262))] [.box [.d (.cx .f32 g_.Feeder.Source.A.re g_.Feeder.Source.A.im), .d (.cx .f32 g_.Feeder.Source.B.re g_.Feeder.Source.B.im), .d (.cx .f32 g_.Feeder.Source.C.re g_.Feeder.Source.C.im), .d (.sl false (g_.Feeder.Buses.map eSBus)), .d (.sl false (g_.Ties.map eSTie))], .box [.d (.int .u64 v282)]] f40.ntmps 1) (fun v282 => m_impl_Grid_hung_j7 n (m_impl_Grid_hung_l6 n g_ bus_ ties_ (m_impl_Grid_hung_l2 n g_ bus_ ties_ m185) v154 m272) v262 v282 = some r) ?_ (fun hk283 => ?_)
            · rintro v282 h
              replace h : m_impl_Grid_hung_j7 n (m_impl_Grid_hung_l6 n g_ bus_ ties_ (m_impl_Grid_hung_l2 n g_ bus_ ties_ m185) v154 m272) v262 v282 = some r := h
              unfold m_impl_Grid_hung_j7 at h
              refine aw_region ?_
              refine awl_val hτ rfl rfl rfl ?_
              refine awl_val hτ rfl rfl rfl ?_
              refine awl_nil ?_
              exact ⟨(m272, v282, (w64 (v262 + (1 : Int)))), h, Nat.lt_succ_self m272, (weak_ofP [0, 1] (l := [(0, .ptr 0 0), (1, .d (.int .i64 bus_)), (2, .d (.sl false (ties_.map eInti64))), (9, .ptr 1 0), (10, .func 68 [] [.ptr 1 0]), (23, .d (.int .i64 (g_.Feeder.Buses.length : Int))), (24, .d (.int .i64 v154)), (30, .d (.sl false (g_.Feeder.Buses.map eSBus))), (31, .d (.int .i64 (g_.Feeder.Buses.length : Int))), (32, .d (.int .i64 (w64 (v262 + (1 : Int)))))]) (objs := [.box [.d (.cx .f32 g_.Feeder.Source.A.re g_.Feeder.Source.A.im), .d (.cx .f32 g_.Feeder.Source.B.re g_.Feeder.Source.B.im), .d (.cx .f32 g_.Feeder.Source.C.re g_.Feeder.Source.C.im), .d (.sl false (g_.Feeder.Buses.map eSBus)), .d (.sl false (g_.Ties.map eSTie))], .box [.d (.int .u64 v282)]]) rfl (by simp) rfl (by repeat' first | exact trivial | refine ⟨?_, ?_⟩) ⟨rfl, trivial, rfl, trivial, rfl, trivial, rfl, trivial, rfl, (by repeat' first | exact trivial | refine ⟨?_, ?_⟩), rfl, trivial, rfl, trivial, rfl, trivial, rfl, trivial, rfl, trivial, trivial⟩)⟩
            · refine aw_seq ?_
              refine aw_block ?_
              refine aw_seq ?_
              refine aw_region ?_
              refine awl_val hτ rfl rfl rfl ?_
              refine bnd_elim h fun x284 hx284 h => ?_
              refine awl_elem hτ rfl rfl rfl (getI_some hx284).1 (map_getI hx284) rfl ?_
              refine awl_val hτ rfl rfl rfl ?_
              refine awl_valH hτ rfl rfl rfl ?_
              refine awl_val hτ rfl rfl rfl ?_
              refine awl_valH hτ rfl rfl rfl ?_
              refine awl_nil ?_
              refine aw_hk1 (ι := Bool) (fun v289 => St.of [(0, .ptr 0 0), (1, .d (.int .i64 bus_)), (2, .d (.sl false (ties_.map eInti64))), (9, .ptr 1 0), (10, .func 68 [] [.ptr 1 0]), (11, .d (.int .i64 v262)), (12, .ptr 2 0), (23, .d (.int .i64 (g_.Feeder.Buses.length : Int))), (24, .d (.int .i64 v154)), (30, .d (.sl false (g_.Feeder.Buses.map eSBus))), (31, .d (.int .i64 (g_.Feeder.Buses.length : Int))), (32, .d (.int .i64 v262)), (49, .d (.bool v289))] [.box [.d (.cx .f32 g_.Feeder.Source.A.re g_.Feeder.Source.A.im), .d (.cx .f32 g_.Feeder.Source.B.re g_.Feeder.Source.B.im), .d (.cx .f32 g_.Feeder.Source.C.re g_.Feeder.Source.C.im), .d (.sl false (g_.Feeder.Buses.map eSBus)), .d (.sl false (g_.Ties.map eSTie))], .box [.d (.int .u64 v261)], .box [.d (.int .i64 x284.Parent), .d (.cx .f32 x284.Own.re x284.Own.im), .d (.cx .f32 x284.Shared.re x284.Shared.im), .d (.int .i64 x284.Kind), .d (.cx .f32 x284.Load.A.re x284.Load.A.im), .d (.cx .f32 x284.Load.B.re x284.Load.B.im), .d (.cx .f32 x284.Load.C.re x284.Load.C.im), .d (.int .i64 x284.Customers)]] f40.ntmps 1) (fun v289 => m_impl_Grid_hung_j8 n (m_impl_Grid_hung_l6 n g_ bus_ ties_ (m_impl_Grid_hung_l2 n g_ bus_ ties_ m185) v154 m272) v261 v262 x284 v289 = some r) ?_ (fun hk292 => ?_)
              · rintro v289 h
                replace h : m_impl_Grid_hung_j8 n (m_impl_Grid_hung_l6 n g_ bus_ ties_ (m_impl_Grid_hung_l2 n g_ bus_ ties_ m185) v154 m272) v261 v262 x284 v289 = some r := h
                unfold m_impl_Grid_hung_j8 at h
                refine aw_cond rfl (fun hc290 => ?_) (fun hc290 => ?_)
                · have h := if_bt h hc290
                  refine aw_region ?_
                  refine awl_val hτ rfl rfl rfl ?_
                  refine awl_val hτ rfl rfl rfl ?_
                  refine awl_val hτ rfl rfl rfl ?_
                  refine awl_val hτ rfl rfl rfl ?_
                  refine bnd_elim h fun x291 hx291 h => ?_
                  refine awl_callP hτ false [1] rfl rfl rfl (enterOk func68 rfl rfl) rfl rfl (by simp) ⟨trivial, trivial, trivial, trivial⟩ (by repeat' first | exact trivial | refine ⟨?_, ?_⟩) (impl_Grid_hung_1_ok n v262 x284.Parent v261 hx291) ?_
                  rintro r0 o0 n0 ⟨rfl, rfl, rfl⟩ -
                  refine awl_nil ?_
                  refine aw_weak (weak_ofP [0, 1] (l := [(0, .ptr 0 0), (1, .d (.int .i64 bus_)), (2, .d (.sl false (ties_.map eInti64))), (9, .ptr 1 0), (10, .func 68 [] [.ptr 1 0]), (23, .d (.int .i64 (g_.Feeder.Buses.length : Int))), (24, .d (.int .i64 v154)), (30, .d (.sl false (g_.Feeder.Buses.map eSBus))), (31, .d (.int .i64 (g_.Feeder.Buses.length : Int))), (32, .d (.int .i64 v262))]) (objs := [.box [.d (.cx .f32 g_.Feeder.Source.A.re g_.Feeder.Source.A.im), .d (.cx .f32 g_.Feeder.Source.B.re g_.Feeder.Source.B.im), .d (.cx .f32 g_.Feeder.Source.C.re g_.Feeder.Source.C.im), .d (.sl false (g_.Feeder.Buses.map eSBus)), .d (.sl false (g_.Ties.map eSTie))], .box [.d (.int .u64 x291)]]) rfl (by simp) rfl (by repeat' first | exact trivial | refine ⟨?_, ?_⟩) ⟨rfl, trivial, rfl, trivial, rfl, trivial, rfl, trivial, rfl, (by repeat' first | exact trivial | refine ⟨?_, ?_⟩), rfl, trivial, rfl, trivial, rfl, trivial, rfl, trivial, rfl, trivial, trivial⟩) ?_
                  exact hk283 x291 h
                · have h := if_bf h hc290
                  refine aw_skip ?_
                  refine aw_weak (weak_ofP [0, 1] (l := [(0, .ptr 0 0), (1, .d (.int .i64 bus_)), (2, .d (.sl false (ties_.map eInti64))), (9, .ptr 1 0), (10, .func 68 [] [.ptr 1 0]), (23, .d (.int .i64 (g_.Feeder.Buses.length : Int))), (24, .d (.int .i64 v154)), (30, .d (.sl false (g_.Feeder.Buses.map eSBus))), (31, .d (.int .i64 (g_.Feeder.Buses.length : Int))), (32, .d (.int .i64 v262))]) (objs := [.box [.d (.cx .f32 g_.Feeder.Source.A.re g_.Feeder.Source.A.im), .d (.cx .f32 g_.Feeder.Source.B.re g_.Feeder.Source.B.im), .d (.cx .f32 g_.Feeder.Source.C.re g_.Feeder.Source.C.im), .d (.sl false (g_.Feeder.Buses.map eSBus)), .d (.sl false (g_.Ties.map eSTie))], .box [.d (.int .u64 v261)]]) rfl (by simp) rfl (by repeat' first | exact trivial | refine ⟨?_, ?_⟩) ⟨rfl, trivial, rfl, trivial, rfl, trivial, rfl, trivial, rfl, (by repeat' first | exact trivial | refine ⟨?_, ?_⟩), rfl, trivial, rfl, trivial, rfl, trivial, rfl, trivial, rfl, trivial, trivial⟩) ?_
                  exact hk283 v261 h
              · refine aw_seq ?_
                refine aw_weak (weak_ofP [0, 1, 2] (l := [(0, .ptr 0 0), (1, .d (.int .i64 bus_)), (2, .d (.sl false (ties_.map eInti64))), (9, .ptr 1 0), (10, .func 68 [] [.ptr 1 0]), (11, .d (.int .i64 v262)), (12, .ptr 2 0), (23, .d (.int .i64 (g_.Feeder.Buses.length : Int))), (24, .d (.int .i64 v154)), (30, .d (.sl false (g_.Feeder.Buses.map eSBus))), (31, .d (.int .i64 (g_.Feeder.Buses.length : Int))), (32, .d (.int .i64 v262))]) (objs := [.box [.d (.cx .f32 g_.Feeder.Source.A.re g_.Feeder.Source.A.im), .d (.cx .f32 g_.Feeder.Source.B.re g_.Feeder.Source.B.im), .d (.cx .f32 g_.Feeder.Source.C.re g_.Feeder.Source.C.im), .d (.sl false (g_.Feeder.Buses.map eSBus)), .d (.sl false (g_.Ties.map eSTie))], .box [.d (.int .u64 v261)], .box [.d (.int .i64 x284.Parent), .d (.cx .f32 x284.Own.re x284.Own.im), .d (.cx .f32 x284.Shared.re x284.Shared.im), .d (.int .i64 x284.Kind), .d (.cx .f32 x284.Load.A.re x284.Load.A.im), .d (.cx .f32 x284.Load.B.re x284.Load.B.im), .d (.cx .f32 x284.Load.C.re x284.Load.C.im), .d (.int .i64 x284.Customers)]]) rfl (by simp) rfl (by repeat' first | exact trivial | refine ⟨?_, ?_⟩) ⟨rfl, trivial, rfl, trivial, rfl, trivial, rfl, trivial, rfl, (by repeat' first | exact trivial | refine ⟨?_, ?_⟩), rfl, trivial, rfl, trivial, rfl, trivial, rfl, trivial, rfl, trivial, rfl, trivial, rfl, trivial, trivial⟩) ?_
                refine aw_region ?_
                refine awl_val hτ rfl rfl rfl ?_
                refine awl_val hτ rfl rfl rfl ?_
                refine awl_val hτ rfl rfl rfl ?_
                refine awl_split 39 rfl (fun hb293 => ?_) (fun hb293 => ?_)
                · have h := if_t h hb293
                  refine awl_val hτ rfl rfl rfl ?_
                  refine awl_val hτ rfl rfl rfl ?_
                  refine awl_val hτ (v := .d (.bool (!(decide (v262 = bus_))))) rfl rfl (or_ine _ _) ?_
                  refine awl_val hτ rfl rfl rfl ?_
                  refine awl_val hτ rfl rfl rfl ?_
                  refine awl_split 44 rfl (fun hb294 => ?_) (fun hb294 => ?_)
                  · have hb294 := not_t hb294
                    have h := if_f h hb294
                    refine awl_val hτ rfl rfl rfl ?_
                    refine awl_val hτ rfl rfl rfl ?_
                    refine awl_val hτ rfl rfl rfl ?_
                    refine awl_val hτ (v := .d (.bool (!(decide (x284.Parent = bus_))))) rfl rfl (or_ine _ _) ?_
                    refine awl_weak (weak_ofP [0, 1, 2] (l := [(0, .ptr 0 0), (1, .d (.int .i64 bus_)), (2, .d (.sl false (ties_.map eInti64))), (9, .ptr 1 0), (10, .func 68 [] [.ptr 1 0]), (11, .d (.int .i64 v262)), (12, .ptr 2 0), (23, .d (.int .i64 (g_.Feeder.Buses.length : Int))), (24, .d (.int .i64 v154)), (30, .d (.sl false (g_.Feeder.Buses.map eSBus))), (31, .d (.int .i64 (g_.Feeder.Buses.length : Int))), (32, .d (.int .i64 v262)), (44, .d (.bool true)), (48, .d (.bool (!(decide (x284.Parent = bus_)))))]) (objs := [.box [.d (.cx .f32 g_.Feeder.Source.A.re g_.Feeder.Source.A.im), .d (.cx .f32 g_.Feeder.Source.B.re g_.Feeder.Source.B.im), .d (.cx .f32 g_.Feeder.Source.C.re g_.Feeder.Source.C.im), .d (.sl false (g_.Feeder.Buses.map eSBus)), .d (.sl false (g_.Ties.map eSTie))], .box [.d (.int .u64 v261)], .box [.d (.int .i64 x284.Parent), .d (.cx .f32 x284.Own.re x284.Own.im), .d (.cx .f32 x284.Shared.re x284.Shared.im), .d (.int .i64 x284.Kind), .d (.cx .f32 x284.Load.A.re x284.Load.A.im), .d (.cx .f32 x284.Load.B.re x284.Load.B.im), .d (.cx .f32 x284.Load.C.re x284.Load.C.im), .d (.int .i64 x284.Customers)]]) rfl (by simp) rfl (by repeat' first | exact trivial | refine ⟨?_, ?_⟩) ⟨rfl, trivial, rfl, trivial, rfl, trivial, rfl, trivial, rfl, (by repeat' first | exact trivial | refine ⟨?_, ?_⟩), rfl, trivial, rfl, trivial, rfl, trivial, rfl, trivial, rfl, trivial, rfl, trivial, rfl, trivial, rfl, trivial, rfl, trivial, trivial⟩) ?_
                    refine awl_val hτ rfl rfl rfl ?_
                    refine awl_nil ?_
                    refine aw_weak (weak_ofP [0, 1, 2] (l := [(0, .ptr 0 0), (1, .d (.int .i64 bus_)), (2, .d (.sl false (ties_.map eInti64))), (9, .ptr 1 0), (10, .func 68 [] [.ptr 1 0]), (11, .d (.int .i64 v262)), (12, .ptr 2 0), (23, .d (.int .i64 (g_.Feeder.Buses.length : Int))), (24, .d (.int .i64 v154)), (30, .d (.sl false (g_.Feeder.Buses.map eSBus))), (31, .d (.int .i64 (g_.Feeder.Buses.length : Int))), (32, .d (.int .i64 v262)), (49, .d (.bool (!(decide (x284.Parent = bus_)))))]) (objs := [.box [.d (.cx .f32 g_.Feeder.Source.A.re g_.Feeder.Source.A.im), .d (.cx .f32 g_.Feeder.Source.B.re g_.Feeder.Source.B.im), .d (.cx .f32 g_.Feeder.Source.C.re g_.Feeder.Source.C.im), .d (.sl false (g_.Feeder.Buses.map eSBus)), .d (.sl false (g_.Ties.map eSTie))], .box [.d (.int .u64 v261)], .box [.d (.int .i64 x284.Parent), .d (.cx .f32 x284.Own.re x284.Own.im), .d (.cx .f32 x284.Shared.re x284.Shared.im), .d (.int .i64 x284.Kind), .d (.cx .f32 x284.Load.A.re x284.Load.A.im), .d (.cx .f32 x284.Load.B.re x284.Load.B.im), .d (.cx .f32 x284.Load.C.re x284.Load.C.im), .d (.int .i64 x284.Customers)]]) rfl (by simp) rfl (by repeat' first | exact trivial | refine ⟨?_, ?_⟩) ⟨rfl, trivial, rfl, trivial, rfl, trivial, rfl, trivial, rfl, (by repeat' first | exact trivial | refine ⟨?_, ?_⟩), rfl, trivial, rfl, trivial, rfl, trivial, rfl, trivial, rfl, trivial, rfl, trivial, rfl, trivial, rfl, trivial, trivial⟩) ?_
                    exact hk292 (!(decide (x284.Parent = bus_))) h
                  · have hb294 := not_f hb294
                    have h := if_t h hb294
                    refine awl_skip rfl rfl ?_
                    refine awl_skip rfl rfl ?_
                    refine awl_skip rfl rfl ?_
                    refine awl_skip rfl rfl ?_
                    refine awl_weak (weak_ofP [0, 1, 2] (l := [(0, .ptr 0 0), (1, .d (.int .i64 bus_)), (2, .d (.sl false (ties_.map eInti64))), (9, .ptr 1 0), (10, .func 68 [] [.ptr 1 0]), (11, .d (.int .i64 v262)), (12, .ptr 2 0), (23, .d (.int .i64 (g_.Feeder.Buses.length : Int))), (24, .d (.int .i64 v154)), (30, .d (.sl false (g_.Feeder.Buses.map eSBus))), (31, .d (.int .i64 (g_.Feeder.Buses.length : Int))), (32, .d (.int .i64 v262)), (44, .d (.bool false)), (48, .und)]) (objs := [.box [.d (.cx .f32 g_.Feeder.Source.A.re g_.Feeder.Source.A.im), .d (.cx .f32 g_.Feeder.Source.B.re g_.Feeder.Source.B.im), .d (.cx .f32 g_.Feeder.Source.C.re g_.Feeder.Source.C.im), .d (.sl false (g_.Feeder.Buses.map eSBus)), .d (.sl false (g_.Ties.map eSTie))], .box [.d (.int .u64 v261)], .box [.d (.int .i64 x284.Parent), .d (.cx .f32 x284.Own.re x284.Own.im), .d (.cx .f32 x284.Shared.re x284.Shared.im), .d (.int .i64 x284.Kind), .d (.cx .f32 x284.Load.A.re x284.Load.A.im), .d (.cx .f32 x284.Load.B.re x284.Load.B.im), .d (.cx .f32 x284.Load.C.re x284.Load.C.im), .d (.int .i64 x284.Customers)]]) rfl (by simp) rfl (by repeat' first | exact trivial | refine ⟨?_, ?_⟩) ⟨rfl, trivial, rfl, trivial, rfl, trivial, rfl, trivial, rfl, (by repeat' first | exact trivial | refine ⟨?_, ?_⟩), rfl, trivial, rfl, trivial, rfl, trivial, rfl, trivial, rfl, trivial, rfl, trivial, rfl, trivial, rfl, trivial, rfl, trivial, trivial⟩) ?_
                    refine awl_val hτ rfl rfl rfl ?_
                    refine awl_nil ?_
                    refine aw_weak (weak_ofP [0, 1, 2] (l := [(0, .ptr 0 0), (1, .d (.int .i64 bus_)), (2, .d (.sl false (ties_.map eInti64))), (9, .ptr 1 0), (10, .func 68 [] [.ptr 1 0]), (11, .d (.int .i64 v262)), (12, .ptr 2 0), (23, .d (.int .i64 (g_.Feeder.Buses.length : Int))), (24, .d (.int .i64 v154)), (30, .d (.sl false (g_.Feeder.Buses.map eSBus))), (31, .d (.int .i64 (g_.Feeder.Buses.length : Int))), (32, .d (.int .i64 v262)), (49, .d (.bool false))]) (objs := [.box [.d (.cx .f32 g_.Feeder.Source.A.re g_.Feeder.Source.A.im), .d (.cx .f32 g_.Feeder.Source.B.re g_.Feeder.Source.B.im), .d (.cx .f32 g_.Feeder.Source.C.re g_.Feeder.Source.C.im), .d (.sl false (g_.Feeder.Buses.map eSBus)), .d (.sl false (g_.Ties.map eSTie))], .box [.d (.int .u64 v261)], .box [.d (.int .i64 x284.Parent), .d (.cx .f32 x284.Own.re x284.Own.im), .d (.cx .f32 x284.Shared.re x284.Shared.im), .d (.int .i64 x284.Kind), .d (.cx .f32 x284.Load.A.re x284.Load.A.im), .d (.cx .f32 x284.Load.B.re x284.Load.B.im), .d (.cx .f32 x284.Load.C.re x284.Load.C.im), .d (.int .i64 x284.Customers)]]) rfl (by simp) rfl (by repeat' first | exact trivial | refine ⟨?_, ?_⟩) ⟨rfl, trivial, rfl, trivial, rfl, trivial, rfl, trivial, rfl, (by repeat' first | exact trivial | refine ⟨?_, ?_⟩), rfl, trivial, rfl, trivial, rfl, trivial, rfl, trivial, rfl, trivial, rfl, trivial, rfl, trivial, rfl, trivial, trivial⟩) ?_
                    exact hk292 false h
                · have h := if_f h hb293
                  refine awl_skip rfl rfl ?_
                  refine awl_skip rfl rfl ?_
                  refine awl_skip rfl rfl ?_
                  refine awl_val hτ rfl rfl rfl ?_
                  refine awl_val hτ rfl rfl rfl ?_
                  refine awl_skip rfl rfl ?_
                  refine awl_skip rfl rfl ?_
                  refine awl_skip rfl rfl ?_
                  refine awl_skip rfl rfl ?_
                  refine awl_weak (weak_ofP [0, 1, 2] (l := [(0, .ptr 0 0), (1, .d (.int .i64 bus_)), (2, .d (.sl false (ties_.map eInti64))), (9, .ptr 1 0), (10, .func 68 [] [.ptr 1 0]), (11, .d (.int .i64 v262)), (12, .ptr 2 0), (23, .d (.int .i64 (g_.Feeder.Buses.length : Int))), (24, .d (.int .i64 v154)), (30, .d (.sl false (g_.Feeder.Buses.map eSBus))), (31, .d (.int .i64 (g_.Feeder.Buses.length : Int))), (32, .d (.int .i64 v262)), (44, .d (.bool false)), (48, .und)]) (objs := [.box [.d (.cx .f32 g_.Feeder.Source.A.re g_.Feeder.Source.A.im), .d (.cx .f32 g_.Feeder.Source.B.re g_.Feeder.Source.B.im), .d (.cx .f32 g_.Feeder.Source.C.re g_.Feeder.Source.C.im), .d (.sl false (g_.Feeder.Buses.map eSBus)), .d (.sl false (g_.Ties.map eSTie))], .box [.d (.int .u64 v261)], .box [.d (.int .i64 x284.Parent), .d (.cx .f32 x284.Own.re x284.Own.im), .d (.cx .f32 x284.Shared.re x284.Shared.im), .d (.int .i64 x284.Kind), .d (.cx .f32 x284.Load.A.re x284.Load.A.im), .d (.cx .f32 x284.Load.B.re x284.Load.B.im), .d (.cx .f32 x284.Load.C.re x284.Load.C.im), .d (.int .i64 x284.Customers)]]) rfl (by simp) rfl (by repeat' first | exact trivial | refine ⟨?_, ?_⟩) ⟨rfl, trivial, rfl, trivial, rfl, trivial, rfl, trivial, rfl, (by repeat' first | exact trivial | refine ⟨?_, ?_⟩), rfl, trivial, rfl, trivial, rfl, trivial, rfl, trivial, rfl, trivial, rfl, trivial, rfl, trivial, rfl, trivial, rfl, trivial, trivial⟩) ?_
                  refine awl_val hτ rfl rfl rfl ?_
                  refine awl_nil ?_
                  refine aw_weak (weak_ofP [0, 1, 2] (l := [(0, .ptr 0 0), (1, .d (.int .i64 bus_)), (2, .d (.sl false (ties_.map eInti64))), (9, .ptr 1 0), (10, .func 68 [] [.ptr 1 0]), (11, .d (.int .i64 v262)), (12, .ptr 2 0), (23, .d (.int .i64 (g_.Feeder.Buses.length : Int))), (24, .d (.int .i64 v154)), (30, .d (.sl false (g_.Feeder.Buses.map eSBus))), (31, .d (.int .i64 (g_.Feeder.Buses.length : Int))), (32, .d (.int .i64 v262)), (49, .d (.bool false))]) (objs := [.box [.d (.cx .f32 g_.Feeder.Source.A.re g_.Feeder.Source.A.im), .d (.cx .f32 g_.Feeder.Source.B.re g_.Feeder.Source.B.im), .d (.cx .f32 g_.Feeder.Source.C.re g_.Feeder.Source.C.im), .d (.sl false (g_.Feeder.Buses.map eSBus)), .d (.sl false (g_.Ties.map eSTie))], .box [.d (.int .u64 v261)], .box [.d (.int .i64 x284.Parent), .d (.cx .f32 x284.Own.re x284.Own.im), .d (.cx .f32 x284.Shared.re x284.Shared.im), .d (.int .i64 x284.Kind), .d (.cx .f32 x284.Load.A.re x284.Load.A.im), .d (.cx .f32 x284.Load.B.re x284.Load.B.im), .d (.cx .f32 x284.Load.C.re x284.Load.C.im), .d (.int .i64 x284.Customers)]]) rfl (by simp) rfl (by repeat' first | exact trivial | refine ⟨?_, ?_⟩) ⟨rfl, trivial, rfl, trivial, rfl, trivial, rfl, trivial, rfl, (by repeat' first | exact trivial | refine ⟨?_, ?_⟩), rfl, trivial, rfl, trivial, rfl, trivial, rfl, trivial, rfl, trivial, rfl, trivial, rfl, trivial, rfl, trivial, trivial⟩) ?_
                  exact hk292 false h
          · have h := if_f h hc274
            refine aw_exit ?_
            refine aw_weak (weak_ofP [0, 1] (l := [(0, .ptr 0 0), (1, .d (.int .i64 bus_)), (2, .d (.sl false (ties_.map eInti64))), (9, .ptr 1 0), (10, .func 68 [] [.ptr 1 0]), (23, .d (.int .i64 (g_.Feeder.Buses.length : Int))), (24, .d (.int .i64 v154))]) (objs := [.box [.d (.cx .f32 g_.Feeder.Source.A.re g_.Feeder.Source.A.im), .d (.cx .f32 g_.Feeder.Source.B.re g_.Feeder.Source.B.im), .d (.cx .f32 g_.Feeder.Source.C.re g_.Feeder.Source.C.im), .d (.sl false (g_.Feeder.Buses.map eSBus)), .d (.sl false (g_.Ties.map eSTie))], .box [.d (.int .u64 v261)]]) rfl (by simp) rfl (by repeat' first | exact trivial | refine ⟨?_, ?_⟩) ⟨rfl, trivial, rfl, trivial, rfl, trivial, rfl, trivial, rfl, (by repeat' first | exact trivial | refine ⟨?_, ?_⟩), rfl, trivial, rfl, trivial, trivial⟩) ?_
            exact hk253 v261 h
    · have h := if_f h hc187
      refine aw_exit ?_
      refine aw_weak (weak_ofP [0, 1] (l := [(9, .ptr 1 0)]) (objs := [.box [.d (.cx .f32 g_.Feeder.Source.A.re g_.Feeder.Source.A.im), .d (.cx .f32 g_.Feeder.Source.B.re g_.Feeder.Source.B.im), .d (.cx .f32 g_.Feeder.Source.C.re g_.Feeder.Source.C.im), .d (.sl false (g_.Feeder.Buses.map eSBus)), .d (.sl false (g_.Ties.map eSTie))], .box [.d (.int .u64 v153)]]) rfl (by simp) rfl (by repeat' first | exact trivial | refine ⟨?_, ?_⟩) ⟨rfl, trivial, trivial⟩) ?_
      exact hk124 v153 h

def m_bits_TrailingZeros64 (n : Nat) (x : Int) : Option Int := tz64 x
theorem bits_TrailingZeros64_ok (n : Nat) (x : Int) {r : Int} (h : m_bits_TrailingZeros64 n x = some r) : ACall prog false 86 [.d (.int .u64 x)] [] (fun v o new => v = .d (.int .i64 r) ∧ o = [] ∧ new = []) := acall_quiet (tz64_does h)
theorem bits_TrailingZeros64_ok_fr (n : Nat) (x : Int) {r : Int} (h : m_bits_TrailingZeros64 n x = some r) : ACall prog true 86 [.d (.int .u64 x)] [] (fun v o new => v = .d (.int .i64 r) ∧ o = [] ∧ new = []) := acall_quiet (tz64_does h)

def m_bits_TrailingZeros (n : Nat) (x_ : Int) : Option Int :=
  (m_bits_TrailingZeros64 n x_).bind fun x2 =>
  some x2
theorem bits_TrailingZeros_ok_fr0 (fr : Bool) (n : Nat) (x_ : Int) {r : Int} (h : m_bits_TrailingZeros n x_ = some r) : ACall prog fr 67 [.d (.int .u64 x_)] [] (fun v o new => v = .d (.int .i64 r) ∧ o = [] ∧ new = []) := by
  refine acall_of_aw hτ func67 rfl (by simp) (by simp) ?_
  unfold m_bits_TrailingZeros at h
  refine aw_seq ?_
  refine aw_region ?_
  refine awl_val hτ rfl rfl rfl ?_
  refine awl_nil ?_
  refine aw_seq ?_
  refine aw_cond (b := false) rfl (fun hd => nomatch hd) (fun _ => ?_)
  refine aw_skip ?_
  refine aw_seq ?_
  refine aw_region ?_
  refine awl_val hτ rfl rfl rfl ?_
  refine bnd_elim h fun x2 hx2 h => ?_
  refine awl_callP hτ false [] rfl rfl rfl (enterOk func86 rfl rfl) rfl rfl (by simp) ⟨trivial, trivial⟩ (by repeat' first | exact trivial | refine ⟨?_, ?_⟩) (bits_TrailingZeros64_ok n x_ hx2) ?_
  rintro r0 o0 n0 ⟨rfl, rfl, rfl⟩ -
  refine awl_val hτ rfl rfl rfl ?_
  refine awl_nil ?_
  refine aw_weak (weak_ofP [] (l := [(2, .d (.int .i64 x2))]) (objs := []) rfl (by simp) rfl (by repeat' first | exact trivial | refine ⟨?_, ?_⟩) ⟨rfl, trivial, trivial⟩) ?_
  refine aw_ret ?_
  have hr := Option.some.inj h
  subst hr
  exact ret_objs (.inr rfl) [] (objs' := []) (new := []) rfl (by simp) (by simp) rfl (by repeat' first | exact trivial | refine ⟨?_, ?_⟩) rfl rfl (by repeat' first | exact trivial | refine ⟨?_, ?_⟩) (fun _ => ⟨by simp [V.flat, V.flatA, V.flatC, D.flat], flat_nil⟩) ⟨rfl, rfl, rfl⟩
theorem bits_TrailingZeros_ok (n : Nat) (x_ : Int) {r : Int} (h : m_bits_TrailingZeros n x_ = some r) : ACall prog false 67 [.d (.int .u64 x_)] [] (fun v o new => v = .d (.int .i64 r) ∧ o = [] ∧ new = []) := bits_TrailingZeros_ok_fr0 false n x_ h
theorem bits_TrailingZeros_ok_fr (n : Nat) (x_ : Int) {r : Int} (h : m_bits_TrailingZeros n x_ = some r) : ACall prog true 67 [.d (.int .u64 x_)] [] (fun v o new => v = .d (.int .i64 r) ∧ o = [] ∧ new = []) := bits_TrailingZeros_ok_fr0 true n x_ h

def m_impl_listed_l1 (n : Nat) : Nat → Int → List Int → Option (List Int)
  | 0, _, _ => none
  | m17 + 1, v11, v12 =>
    if v11 = (0 : Int) then
      some v12
    else
      (m_bits_TrailingZeros n v11).bind fun x20 =>
      grd (room (v12.length + 1) 8) <|
      (m_impl_listed_l1 n m17) (ibits .and .u64 v11 (IntKind.wrap .u64 (v11 - (1 : Int)))) (v12 ++ [x20])
def m_impl_listed (n : Nat) (set_ : Int) : Option (List Int) :=
  m_impl_listed_l1 n n set_ ([] : List Int)
theorem impl_listed_ok_fr0 (fr : Bool) (n : Nat) (set_ : Int) {r : List Int} (h : m_impl_listed n set_ = some r) : ACall prog fr 39 [.d (.int .u64 set_)] [] (fun v o new => v = .row 0 r.length 0 r.length ∧ o = [] ∧ new = [.row 1 (r.map eInti64)]) := by
  refine acall_of_aw hτ func39 rfl (by simp) (by simp) ?_
  unfold m_impl_listed at h
  refine aw_seq ?_
  refine aw_region ?_
  refine awl_val hτ rfl rfl rfl ?_
  refine awl_nil ?_
  refine aw_seq ?_
  refine aw_region ?_
  refine awl_valH hτ rfl rfl rfl ?_
  refine awl_val hτ rfl rfl rfl ?_
  refine awl_nil ?_
  refine aw_seq ?_
  refine aw_block ?_
  refine aw_loop (ι := Nat × Int × List Int) (fun (m17, v11, v12) => St.of [(0, .d (.int .u64 v11)), (3, .row 0 v12.length 0 v12.length)] [.row 1 (v12.map eInti64)] f39.ntmps 0) (fun (m17, v11, v12) => m_impl_listed_l1 n m17 v11 v12 = some r) (fun x => x.1) (n, set_, ([] : List Int)) h (weak_ofP [0] (l := [(0, .d (.int .u64 set_)), (3, .row 0 (([] : List Int).length) 0 (([] : List Int).length))]) (objs := [.row 1 (([] : List Int).map eInti64)]) rfl (by simp) rfl (by repeat' first | exact trivial | refine ⟨?_, ?_⟩) ⟨rfl, trivial, rfl, trivial, trivial⟩) ?_
  rintro ⟨m17, v11, v12⟩ h
  replace h : m_impl_listed_l1 n m17 v11 v12 = some r := h
  rcases m17 with _ | m17
  · rw [m_impl_listed_l1] at h; cases h
  rw [m_impl_listed_l1] at h
  refine aw_seq ?_
  refine aw_seq ?_
  refine aw_region ?_
  refine awl_val hτ rfl rfl rfl ?_
  refine awl_val hτ (v := .d (.bool (!(decide (v11 = (0 : Int)))))) rfl rfl (or_ine _ _) ?_
  refine awl_nil ?_
  refine aw_cond rfl (fun hc19 => ?_) (fun hc19 => ?_)
  · have hc19 := not_t hc19
    have h := if_f h hc19
    refine aw_skip ?_
    refine aw_seq ?_
    refine aw_block ?_
    refine aw_region ?_
    refine awl_val hτ rfl rfl rfl ?_
    refine awl_val hτ rfl rfl rfl ?_
    refine bnd_elim h fun x20 hx20 h => ?_
    refine awl_callP hτ false [] rfl rfl rfl (enterOk func67 rfl rfl) rfl rfl (by simp) ⟨trivial, trivial⟩ (by repeat' first | exact trivial | refine ⟨?_, ?_⟩) (bits_TrailingZeros_ok n v11 hx20) ?_
    rintro r0 o0 n0 ⟨rfl, rfl, rfl⟩ -
    refine awl_valH hτ rfl rfl rfl ?_
    refine grd_elim h fun hg21 h => ?_
    refine awl_needH hτ rfl rfl (Eq.trans rfl (or_append (f := eInti64) v12 [x20] rfl)) ⟨⟨rfl, Nat.le_of_ble_eq_true rfl⟩, len_map _, rfl, rfl, hg21, by decide, (all1 rfl)⟩ ?_
    refine awl_val hτ rfl rfl rfl ?_
    refine awl_nil ?_
    refine aw_weak (weak_ofP [0] (l := [(0, .d (.int .u64 v11)), (3, .row 0 ((v12 ++ [x20]).length) 0 ((v12 ++ [x20]).length))]) (objs := [.row 1 ((v12 ++ [x20]).map eInti64)]) rfl (by simp) rfl (by repeat' first | exact trivial | refine ⟨?_, ?_⟩) ⟨rfl, trivial, rfl, trivial, trivial⟩) ?_
    refine aw_region ?_
    refine awl_val hτ rfl rfl rfl ?_
    refine awl_val hτ rfl rfl rfl ?_
    refine awl_val hτ rfl rfl rfl ?_
    refine awl_val hτ rfl rfl rfl ?_
    refine awl_val hτ rfl rfl rfl ?_
    refine awl_nil ?_
    exact ⟨(m17, (ibits .and .u64 v11 (IntKind.wrap .u64 (v11 - (1 : Int)))), (v12 ++ [x20])), h, Nat.lt_succ_self m17, (weak_ofP [0] (l := [(0, .d (.int .u64 (ibits .and .u64 v11 (IntKind.wrap .u64 (v11 - (1 : Int)))))), (3, .row 0 ((v12 ++ [x20]).length) 0 ((v12 ++ [x20]).length))]) (objs := [.row 1 ((v12 ++ [x20]).map eInti64)]) rfl (by simp) rfl (by repeat' first | exact trivial | refine ⟨?_, ?_⟩) ⟨rfl, trivial, rfl, trivial, trivial⟩)⟩
  · have hc19 := not_f hc19
    have h := if_t h hc19
    refine aw_exit ?_
    refine aw_seq ?_
    refine aw_region ?_
    refine awl_val hτ rfl rfl rfl ?_
    refine awl_val hτ rfl rfl rfl ?_
    refine awl_nil ?_
    refine aw_weak (weak_ofP [0] (l := [(2, .row 0 v12.length 0 v12.length)]) (objs := [.row 1 (v12.map eInti64)]) rfl (by simp) rfl (by repeat' first | exact trivial | refine ⟨?_, ?_⟩) ⟨rfl, trivial, trivial⟩) ?_
    refine aw_ret ?_
    have hr := Option.some.inj h
    subst hr
    exact ret_objs (.inr rfl) [0] (objs' := []) (new := [.row 1 (v12.map eInti64)]) rfl (by simp) (by simp) rfl (by repeat' first | exact trivial | refine ⟨?_, ?_⟩) rfl rfl (by repeat' first | exact trivial | refine ⟨?_, ?_⟩) (fun _ => ⟨by simp [V.flat, V.flatA, V.flatC, D.flat], (flat_cons (flat_row eInti64_flat _) flat_nil)⟩) ⟨rfl, rfl, rfl⟩
theorem impl_listed_ok (n : Nat) (set_ : Int) {r : List Int} (h : m_impl_listed n set_ = some r) : ACall prog false 39 [.d (.int .u64 set_)] [] (fun v o new => v = .row 0 r.length 0 r.length ∧ o = [] ∧ new = [.row 1 (r.map eInti64)]) := impl_listed_ok_fr0 false n set_ h
theorem impl_listed_ok_fr (n : Nat) (set_ : Int) {r : List Int} (h : m_impl_listed n set_ = some r) : ACall prog true 39 [.d (.int .u64 set_)] [] (fun v o new => v = .row 0 r.length 0 r.length ∧ o = [] ∧ new = [.row 1 (r.map eInti64)]) := impl_listed_ok_fr0 true n set_ h

def m_impl_LitAfter (n : Nat) (g_ : SGrid) (bus_ : Int) (closed_ : List Int) : Option (List Int × Bool) :=
  (m_impl_Grid_closing n g_ bus_ closed_).bind fun x5 =>
  if x5 = true then
    (m_impl_Grid_hung n g_ bus_ closed_ (0 : Int)).bind fun x7 =>
    (m_impl_listed n x7).bind fun x8 =>
    some (x8, true)
  else
    some (([] : List Int), false)
theorem impl_LitAfter_ok_fr0 (fr : Bool) (n : Nat) (g_ : SGrid) (bus_ : Int) (closed_ : List Int) {r : List Int × Bool} (h : m_impl_LitAfter n g_ bus_ closed_ = some r) : ACall prog fr 13 [.agg [.d (.cx .f32 g_.Feeder.Source.A.re g_.Feeder.Source.A.im), .d (.cx .f32 g_.Feeder.Source.B.re g_.Feeder.Source.B.im), .d (.cx .f32 g_.Feeder.Source.C.re g_.Feeder.Source.C.im), .d (.sl false (g_.Feeder.Buses.map eSBus)), .d (.sl false (g_.Ties.map eSTie))], .d (.int .i64 bus_), .d (.sl false (closed_.map eInti64))] [] (fun v o new => v = .tup [.row 0 r.1.length 0 r.1.length, .d (.bool r.2)] ∧ o = [] ∧ new = [.row 1 (r.1.map eInti64)]) := by
  refine acall_of_aw hτ func13 rfl (by simp) (by simp) ?_
  unfold m_impl_LitAfter at h
  refine aw_seq ?_
  refine aw_region ?_
  refine awl_valH hτ rfl rfl rfl ?_
  refine awl_val hτ rfl rfl rfl ?_
  refine awl_val hτ rfl rfl rfl ?_
  refine awl_nil ?_
  refine aw_seq ?_
  refine aw_seq ?_
  refine aw_region ?_
  refine awl_val hτ rfl rfl rfl ?_
  refine awl_val hτ rfl rfl rfl ?_
  refine bnd_elim h fun x5 hx5 h => ?_
  refine awl_callP hτ false [0] rfl rfl rfl (enterOk func38 rfl rfl) rfl rfl (by simp) ⟨trivial, trivial, trivial, trivial⟩ (by repeat' first | exact trivial | refine ⟨?_, ?_⟩) (impl_Grid_closing_ok n g_ bus_ closed_ hx5) ?_
  rintro r0 o0 n0 ⟨rfl, rfl, rfl⟩ -
  refine awl_val hτ rfl rfl rfl ?_
  refine awl_nil ?_
  refine aw_weak (weak_ofP [0] (l := [(1, .d (.int .i64 bus_)), (2, .d (.sl false (closed_.map eInti64))), (3, .ptr 0 0), (11, .d (.bool (!x5)))]) (objs := [.box [.d (.cx .f32 g_.Feeder.Source.A.re g_.Feeder.Source.A.im), .d (.cx .f32 g_.Feeder.Source.B.re g_.Feeder.Source.B.im), .d (.cx .f32 g_.Feeder.Source.C.re g_.Feeder.Source.C.im), .d (.sl false (g_.Feeder.Buses.map eSBus)), .d (.sl false (g_.Ties.map eSTie))]]) rfl (by simp) rfl (by repeat' first | exact trivial | refine ⟨?_, ?_⟩) ⟨rfl, trivial, rfl, trivial, rfl, trivial, rfl, trivial, trivial⟩) ?_
  refine aw_cond rfl (fun hc6 => ?_) (fun hc6 => ?_)
  · have hc6 := not_t hc6
    have h := if_bf h hc6
    refine aw_seq ?_
    refine aw_region ?_
    refine awl_val hτ rfl rfl rfl ?_
    refine awl_val hτ rfl rfl rfl ?_
    refine awl_nil ?_
    refine aw_weak (weak_ofP [] (l := [(6, .d (.nils)), (7, .d (.bool false))]) (objs := []) rfl (by simp) rfl (by repeat' first | exact trivial | refine ⟨?_, ?_⟩) ⟨rfl, trivial, rfl, trivial, trivial⟩) ?_
    refine aw_weak (weak_relax [1] (l' := [(6, .row 0 (([] : List Int).length) 0 (([] : List Int).length)), (7, .d (.bool false))]) (objs' := []) (.cons (.c (.ghost ⟨Nat.le_of_ble_eq_true rfl, Nat.le_of_ble_eq_true rfl⟩)) (.cons (.c (.refl _)) .nil)) .nil) ?_
    refine aw_ret ?_
    have hr := Option.some.inj h
    subst hr
    exact ret_objs (.inr rfl) [0] (objs' := []) (new := [.row 1 (([] : List Int).map eInti64)]) rfl (by simp) (by simp) rfl (by repeat' first | exact trivial | refine ⟨?_, ?_⟩) rfl rfl (by repeat' first | exact trivial | refine ⟨?_, ?_⟩) (fun _ => ⟨by simp [V.flat, V.flatA, V.flatC, D.flat], (flat_cons (flat_row eInti64_flat _) flat_nil)⟩) ⟨rfl, rfl, rfl⟩
  · have hc6 := not_f hc6
    have h := if_bt h hc6
    refine aw_skip ?_
    refine aw_seq ?_
    refine aw_region ?_
    refine awl_val hτ rfl rfl rfl ?_
    refine awl_val hτ rfl rfl rfl ?_
    refine bnd_elim h fun x7 hx7 h => ?_
    refine awl_callP hτ false [0] rfl rfl rfl (enterOk func40 rfl rfl) rfl rfl (by simp) ⟨trivial, trivial, trivial, trivial, trivial⟩ (by repeat' first | exact trivial | refine ⟨?_, ?_⟩) (impl_Grid_hung_ok n g_ bus_ closed_ (0 : Int) hx7) ?_
    rintro r0 o0 n0 ⟨rfl, rfl, rfl⟩ -
    refine bnd_elim h fun x8 hx8 h => ?_
    refine awl_callP hτ false [] rfl rfl rfl (enterOk func39 rfl rfl) rfl rfl (by simp) ⟨trivial, trivial⟩ (by repeat' first | exact trivial | refine ⟨?_, ?_⟩) (impl_listed_ok n x7 hx8) ?_
    rintro r0 o0 n0 ⟨rfl, rfl, rfl⟩ -
    refine awl_val hτ rfl rfl rfl ?_
    refine awl_val hτ rfl rfl rfl ?_
    refine awl_nil ?_
    refine aw_weak (weak_ofP [1] (l := [(6, .row 0 x8.length 0 x8.length), (7, .d (.bool true))]) (objs := [.row 1 (x8.map eInti64)]) rfl (by simp) rfl (by repeat' first | exact trivial | refine ⟨?_, ?_⟩) ⟨rfl, trivial, rfl, trivial, trivial⟩) ?_
    refine aw_ret ?_
    have hr := Option.some.inj h
    subst hr
    exact ret_objs (.inr rfl) [0] (objs' := []) (new := [.row 1 (x8.map eInti64)]) rfl (by simp) (by simp) rfl (by repeat' first | exact trivial | refine ⟨?_, ?_⟩) rfl rfl (by repeat' first | exact trivial | refine ⟨?_, ?_⟩) (fun _ => ⟨by simp [V.flat, V.flatA, V.flatC, D.flat], (flat_cons (flat_row eInti64_flat _) flat_nil)⟩) ⟨rfl, rfl, rfl⟩
theorem impl_LitAfter_ok (n : Nat) (g_ : SGrid) (bus_ : Int) (closed_ : List Int) {r : List Int × Bool} (h : m_impl_LitAfter n g_ bus_ closed_ = some r) : ACall prog false 13 [.agg [.d (.cx .f32 g_.Feeder.Source.A.re g_.Feeder.Source.A.im), .d (.cx .f32 g_.Feeder.Source.B.re g_.Feeder.Source.B.im), .d (.cx .f32 g_.Feeder.Source.C.re g_.Feeder.Source.C.im), .d (.sl false (g_.Feeder.Buses.map eSBus)), .d (.sl false (g_.Ties.map eSTie))], .d (.int .i64 bus_), .d (.sl false (closed_.map eInti64))] [] (fun v o new => v = .tup [.row 0 r.1.length 0 r.1.length, .d (.bool r.2)] ∧ o = [] ∧ new = [.row 1 (r.1.map eInti64)]) := impl_LitAfter_ok_fr0 false n g_ bus_ closed_ h
theorem impl_LitAfter_ok_fr (n : Nat) (g_ : SGrid) (bus_ : Int) (closed_ : List Int) {r : List Int × Bool} (h : m_impl_LitAfter n g_ bus_ closed_ = some r) : ACall prog true 13 [.agg [.d (.cx .f32 g_.Feeder.Source.A.re g_.Feeder.Source.A.im), .d (.cx .f32 g_.Feeder.Source.B.re g_.Feeder.Source.B.im), .d (.cx .f32 g_.Feeder.Source.C.re g_.Feeder.Source.C.im), .d (.sl false (g_.Feeder.Buses.map eSBus)), .d (.sl false (g_.Ties.map eSTie))], .d (.int .i64 bus_), .d (.sl false (closed_.map eInti64))] [] (fun v o new => v = .tup [.row 0 r.1.length 0 r.1.length, .d (.bool r.2)] ∧ o = [] ∧ new = [.row 1 (r.1.map eInti64)]) := impl_LitAfter_ok_fr0 true n g_ bus_ closed_ h

def m_impl_Grid_loops_l1 (n : Nat) (g_ : SGrid) (bus_ : Int) (closed_ : List Int) : Nat → Int → Option Bool
  | 0, _ => none
  | m25 + 1, v18 =>
    if v18 < (closed_.length : Int) then
      (getI closed_ v18).bind fun x33 =>
      grd (0 ≤ (0 : Int) ∧ (0 : Int) ≤ v18 ∧ v18 ≤ (closed_.length : Int)) <|
      (getI g_.Ties x33).bind fun x35 =>
      (m_impl_Grid_hung n g_ bus_ (sub closed_ (0 : Int) v18) x35.A).bind fun x36 =>
      grd (0 ≤ x35.B) <|
      if (ibits .and .u64 (x36.fdiv (2 ^ min x35.B.toNat (IntKind.bits .u64))) (1 : Int)) = (1 : Int) then
        some true
      else
        (m_impl_Grid_loops_l1 n g_ bus_ closed_ m25) (w64 (v18 + (1 : Int)))
    else
      some false
def m_impl_Grid_loops (n : Nat) (g_ : SGrid) (bus_ : Int) (closed_ : List Int) : Option Bool :=
  m_impl_Grid_loops_l1 n g_ bus_ closed_ n (0 : Int)
theorem impl_Grid_loops_ok (n : Nat) (g_ : SGrid) (bus_ : Int) (closed_ : List Int) {r : Bool} (h : m_impl_Grid_loops n g_ bus_ closed_ = some r) : ACall prog false 41 [.ptr 0 0, .d (.int .i64 bus_), .d (.sl false (closed_.map eInti64))] [.box [.d (.cx .f32 g_.Feeder.Source.A.re g_.Feeder.Source.A.im), .d (.cx .f32 g_.Feeder.Source.B.re g_.Feeder.Source.B.im), .d (.cx .f32 g_.Feeder.Source.C.re g_.Feeder.Source.C.im), .d (.sl false (g_.Feeder.Buses.map eSBus)), .d (.sl false (g_.Ties.map eSTie))]] (fun v o new => v = .d (.bool r) ∧ o = [.box [.d (.cx .f32 g_.Feeder.Source.A.re g_.Feeder.Source.A.im), .d (.cx .f32 g_.Feeder.Source.B.re g_.Feeder.Source.B.im), .d (.cx .f32 g_.Feeder.Source.C.re g_.Feeder.Source.C.im), .d (.sl false (g_.Feeder.Buses.map eSBus)), .d (.sl false (g_.Ties.map eSTie))]] ∧ new = []) := by
  refine acall_of_aw hτ func41 rfl (by simp) (by simp) ?_
  unfold m_impl_Grid_loops at h
  refine aw_seq ?_
  refine aw_region ?_
  refine awl_val hτ rfl rfl rfl ?_
  refine awl_nil ?_
  refine aw_seq ?_
  refine aw_seq ?_
  refine aw_region ?_
  refine awl_val hτ rfl rfl rfl ?_
  refine awl_val hτ (v := .d (.int .i64 (closed_.length : Int))) rfl rfl (Eq.trans rfl (or_len (f := eInti64) closed_)) ?_
  refine awl_val hτ rfl rfl rfl ?_
  refine awl_nil ?_
  refine aw_block ?_
  refine aw_loop (ι := Nat × Int) (fun (m25, v18) => St.of [(0, .ptr 0 0), (1, .d (.int .i64 bus_)), (2, .d (.sl false (closed_.map eInti64))), (9, .d (.sl false (closed_.map eInti64))), (10, .d (.int .i64 (closed_.length : Int))), (11, .d (.int .i64 v18))] [.box [.d (.cx .f32 g_.Feeder.Source.A.re g_.Feeder.Source.A.im), .d (.cx .f32 g_.Feeder.Source.B.re g_.Feeder.Source.B.im), .d (.cx .f32 g_.Feeder.Source.C.re g_.Feeder.Source.C.im), .d (.sl false (g_.Feeder.Buses.map eSBus)), .d (.sl false (g_.Ties.map eSTie))]] f41.ntmps 1) (fun (m25, v18) => m_impl_Grid_loops_l1 n g_ bus_ closed_ m25 v18 = some r) (fun x => x.1) (n, (0 : Int)) h (weak_ofP [0] (l := [(0, .ptr 0 0), (1, .d (.int .i64 bus_)), (2, .d (.sl false (closed_.map eInti64))), (9, .d (.sl false (closed_.map eInti64))), (10, .d (.int .i64 (closed_.length : Int))), (11, .d (.int .i64 (0 : Int)))]) (objs := [.box [.d (.cx .f32 g_.Feeder.Source.A.re g_.Feeder.Source.A.im), .d (.cx .f32 g_.Feeder.Source.B.re g_.Feeder.Source.B.im), .d (.cx .f32 g_.Feeder.Source.C.re g_.Feeder.Source.C.im), .d (.sl false (g_.Feeder.Buses.map eSBus)), .d (.sl false (g_.Ties.map eSTie))]]) rfl (by simp) rfl (by repeat' first | exact trivial | refine ⟨?_, ?_⟩) ⟨rfl, trivial, rfl, trivial, rfl, trivial, rfl, trivial, rfl, trivial, rfl, trivial, trivial⟩) ?_
  rintro ⟨m25, v18⟩ h
  replace h : m_impl_Grid_loops_l1 n g_ bus_ closed_ m25 v18 = some r := h
  rcases m25 with _ | m25
  · rw [m_impl_Grid_loops_l1] at h; cases h
  rw [m_impl_Grid_loops_l1] at h
  refine aw_seq ?_
  refine aw_region ?_
  refine awl_val hτ rfl rfl rfl ?_
  refine awl_nil ?_
  refine aw_seq ?_
  refine aw_cond rfl (fun hc27 => ?_) (fun hc27 => ?_)
  · have h := if_t h hc27
    refine aw_skip ?_
    refine aw_seq ?_
    refine aw_block ?_
    refine aw_seq ?_
    refine aw_region ?_
    refine awl_val hτ rfl rfl rfl ?_
    refine bnd_elim h fun x33 hx33 h => ?_
    refine awl_elem hτ rfl rfl rfl (getI_some hx33).1 (map_getI hx33) rfl ?_
    refine awl_val hτ rfl rfl rfl ?_
    refine awl_val hτ rfl rfl rfl ?_
    refine awl_val hτ rfl rfl rfl ?_
    refine awl_nil ?_
    refine aw_seq ?_
    refine aw_weak (weak_ofP [0] (l := [(0, .ptr 0 0), (1, .d (.int .i64 bus_)), (2, .d (.sl false (closed_.map eInti64))), (7, .d (.int .i64 v18)), (8, .d (.int .i64 x33)), (9, .d (.sl false (closed_.map eInti64))), (10, .d (.int .i64 (closed_.length : Int))), (11, .d (.int .i64 v18))]) (objs := [.box [.d (.cx .f32 g_.Feeder.Source.A.re g_.Feeder.Source.A.im), .d (.cx .f32 g_.Feeder.Source.B.re g_.Feeder.Source.B.im), .d (.cx .f32 g_.Feeder.Source.C.re g_.Feeder.Source.C.im), .d (.sl false (g_.Feeder.Buses.map eSBus)), .d (.sl false (g_.Ties.map eSTie))]]) rfl (by simp) rfl (by repeat' first | exact trivial | refine ⟨?_, ?_⟩) ⟨rfl, trivial, rfl, trivial, rfl, trivial, rfl, trivial, rfl, trivial, rfl, trivial, rfl, trivial, rfl, trivial, trivial⟩) ?_
    refine any_start ?_
    refine any_val hτ [] 0 rfl rfl rfl rfl rfl ?_
    refine any_val hτ [] 1 rfl rfl rfl rfl rfl ?_
    refine any_val hτ [] 2 rfl rfl rfl rfl rfl ?_
    refine any_val hτ [] 3 rfl rfl rfl rfl rfl ?_
    refine grd_elim h fun hg34 h => ?_
    refine any_need hτ (v := .d (.sl false ((sub closed_ (0 : Int) v18).map eInti64))) [] 4 rfl rfl rfl rfl (Eq.trans rfl (or_dsub (f := eInti64) closed_ (0 : Int) v18)) (dsub_need (f := eInti64) (fun _ => rfl) hg34) ?_
    refine any_val hτ [] 5 rfl rfl rfl rfl rfl ?_
    refine any_val hτ [] 6 rfl rfl rfl rfl rfl ?_
    refine any_val hτ [0] 7 rfl rfl rfl rfl rfl ?_
    refine any_val hτ [0] 8 rfl rfl rfl rfl rfl ?_
    refine any_val hτ [] 9 rfl rfl rfl rfl rfl ?_
    refine bnd_elim h fun x35 hx35 h => ?_
    refine any_elem hτ [] 10 rfl rfl rfl rfl rfl (getI_some hx35).1 (map_getI hx35) rfl ?_
    refine any_val hτ [] 11 rfl rfl rfl rfl rfl ?_
    refine any_val hτ [] 12 rfl rfl rfl rfl rfl ?_
    refine any_val hτ [] 14 rfl rfl rfl rfl rfl ?_
    refine any_val hτ [] 15 rfl rfl rfl rfl rfl ?_
    refine any_val hτ [0] 16 rfl rfl rfl rfl rfl ?_
    refine any_val hτ [0] 17 rfl rfl rfl rfl rfl ?_
    refine any_val hτ [] 18 rfl rfl rfl rfl rfl ?_
    refine any_elem hτ [] 19 rfl rfl rfl rfl rfl (getI_some hx35).1 (map_getI hx35) rfl ?_
    refine any_val hτ [] 20 rfl rfl rfl rfl rfl ?_
    refine any_val hτ [] 21 rfl rfl rfl rfl rfl ?_
    refine bnd_elim h fun x36 hx36 h => ?_
    refine any_callP hτ false [0] [0] 13 rfl rfl rfl rfl (enterOk func40 rfl rfl) rfl rfl (by simp) ⟨trivial, trivial, trivial, trivial, trivial⟩ (by repeat' first | exact trivial | refine ⟨?_, ?_⟩) (impl_Grid_hung_ok n g_ bus_ (sub closed_ (0 : Int) v18) x35.A hx36) ⟨rfl, trivial⟩ ?_
    refine grd_elim h fun hg37 h => ?_
    refine any_need hτ [] 22 rfl rfl rfl rfl rfl hg37 ?_
    refine any_val hτ [] 23 rfl rfl rfl rfl rfl ?_
    refine any_val hτ (v := .d (.bool (decide ((ibits .and .u64 (x36.fdiv (2 ^ min x35.B.toNat (IntKind.bits .u64))) (1 : Int)) = (1 : Int))))) [] 24 rfl rfl rfl rfl (or_ieq _ _) ?_
    refine any_done mixed (by kernel_rfl) ?_
    refine aw_weak (weak_ofP [0] (l := [(0, .ptr 0 0), (1, .d (.int .i64 bus_)), (2, .d (.sl false (closed_.map eInti64))), (9, .d (.sl false (closed_.map eInti64))), (10, .d (.int .i64 (closed_.length : Int))), (11, .d (.int .i64 v18)), (40, .d (.bool (decide ((ibits .and .u64 (x36.fdiv (2 ^ min x35.B.toNat (IntKind.bits .u64))) (1 : Int)) = (1 : Int)))))]) (objs := [.box [.d (.cx .f32 g_.Feeder.Source.A.re g_.Feeder.Source.A.im), .d (.cx .f32 g_.Feeder.Source.B.re g_.Feeder.Source.B.im), .d (.cx .f32 g_.Feeder.Source.C.re g_.Feeder.Source.C.im), .d (.sl false (g_.Feeder.Buses.map eSBus)), .d (.sl false (g_.Ties.map eSTie))]]) rfl (by simp) rfl (by repeat' first | exact trivial | refine ⟨?_, ?_⟩) ⟨rfl, trivial, rfl, trivial, rfl, trivial, rfl, trivial, rfl, trivial, rfl, trivial, rfl, trivial, trivial⟩) ?_
    refine aw_cond rfl (fun hc38 => ?_) (fun hc38 => ?_)
    · have h := if_t h hc38
      refine aw_seq ?_
      refine aw_region ?_
      refine awl_val hτ rfl rfl rfl ?_
      refine awl_nil ?_
      refine aw_weak (weak_ofP [0] (l := [(6, .d (.bool true))]) (objs := [.box [.d (.cx .f32 g_.Feeder.Source.A.re g_.Feeder.Source.A.im), .d (.cx .f32 g_.Feeder.Source.B.re g_.Feeder.Source.B.im), .d (.cx .f32 g_.Feeder.Source.C.re g_.Feeder.Source.C.im), .d (.sl false (g_.Feeder.Buses.map eSBus)), .d (.sl false (g_.Ties.map eSTie))]]) rfl (by simp) rfl (by repeat' first | exact trivial | refine ⟨?_, ?_⟩) ⟨rfl, trivial, trivial⟩) ?_
      refine aw_ret ?_
      have hr := Option.some.inj h
      subst hr
      exact ret_objs (.inr rfl) [] (objs' := [.box [.d (.cx .f32 g_.Feeder.Source.A.re g_.Feeder.Source.A.im), .d (.cx .f32 g_.Feeder.Source.B.re g_.Feeder.Source.B.im), .d (.cx .f32 g_.Feeder.Source.C.re g_.Feeder.Source.C.im), .d (.sl false (g_.Feeder.Buses.map eSBus)), .d (.sl false (g_.Ties.map eSTie))]]) (new := []) rfl (by simp) (by simp) rfl (by repeat' first | exact trivial | refine ⟨?_, ?_⟩) rfl rfl (by repeat' first | exact trivial | refine ⟨?_, ?_⟩) (fun h => nomatch h) ⟨rfl, rfl, rfl⟩
    · have h := if_f h hc38
      refine aw_skip ?_
      refine aw_region ?_
      refine awl_val hτ rfl rfl rfl ?_
      refine awl_val hτ rfl rfl rfl ?_
      refine awl_nil ?_
      exact ⟨(m25, (w64 (v18 + (1 : Int)))), h, Nat.lt_succ_self m25, (weak_ofP [0] (l := [(0, .ptr 0 0), (1, .d (.int .i64 bus_)), (2, .d (.sl false (closed_.map eInti64))), (9, .d (.sl false (closed_.map eInti64))), (10, .d (.int .i64 (closed_.length : Int))), (11, .d (.int .i64 (w64 (v18 + (1 : Int)))))]) (objs := [.box [.d (.cx .f32 g_.Feeder.Source.A.re g_.Feeder.Source.A.im), .d (.cx .f32 g_.Feeder.Source.B.re g_.Feeder.Source.B.im), .d (.cx .f32 g_.Feeder.Source.C.re g_.Feeder.Source.C.im), .d (.sl false (g_.Feeder.Buses.map eSBus)), .d (.sl false (g_.Ties.map eSTie))]]) rfl (by simp) rfl (by repeat' first | exact trivial | refine ⟨?_, ?_⟩) ⟨rfl, trivial, rfl, trivial, rfl, trivial, rfl, trivial, rfl, trivial, rfl, trivial, trivial⟩)⟩
  · have h := if_f h hc27
    refine aw_exit ?_
    refine aw_seq ?_
    refine aw_region ?_
    refine awl_val hτ rfl rfl rfl ?_
    refine awl_nil ?_
    refine aw_weak (weak_ofP [0] (l := [(6, .d (.bool false))]) (objs := [.box [.d (.cx .f32 g_.Feeder.Source.A.re g_.Feeder.Source.A.im), .d (.cx .f32 g_.Feeder.Source.B.re g_.Feeder.Source.B.im), .d (.cx .f32 g_.Feeder.Source.C.re g_.Feeder.Source.C.im), .d (.sl false (g_.Feeder.Buses.map eSBus)), .d (.sl false (g_.Ties.map eSTie))]]) rfl (by simp) rfl (by repeat' first | exact trivial | refine ⟨?_, ?_⟩) ⟨rfl, trivial, trivial⟩) ?_
    refine aw_ret ?_
    have hr := Option.some.inj h
    subst hr
    exact ret_objs (.inr rfl) [] (objs' := [.box [.d (.cx .f32 g_.Feeder.Source.A.re g_.Feeder.Source.A.im), .d (.cx .f32 g_.Feeder.Source.B.re g_.Feeder.Source.B.im), .d (.cx .f32 g_.Feeder.Source.C.re g_.Feeder.Source.C.im), .d (.sl false (g_.Feeder.Buses.map eSBus)), .d (.sl false (g_.Ties.map eSTie))]]) (new := []) rfl (by simp) (by simp) rfl (by repeat' first | exact trivial | refine ⟨?_, ?_⟩) rfl rfl (by repeat' first | exact trivial | refine ⟨?_, ?_⟩) (fun h => nomatch h) ⟨rfl, rfl, rfl⟩

def m_impl_HasLoop (n : Nat) (g_ : SGrid) (bus_ : Int) (closed_ : List Int) : Option (Bool × Bool) :=
  (m_impl_Grid_closing n g_ bus_ closed_).bind fun x4 =>
  if x4 = true then
    (m_impl_Grid_loops n g_ bus_ closed_).bind fun x6 =>
    some (x6, true)
  else
    some (false, false)
theorem impl_HasLoop_ok_fr0 (fr : Bool) (n : Nat) (g_ : SGrid) (bus_ : Int) (closed_ : List Int) {r : Bool × Bool} (h : m_impl_HasLoop n g_ bus_ closed_ = some r) : ACall prog fr 14 [.agg [.d (.cx .f32 g_.Feeder.Source.A.re g_.Feeder.Source.A.im), .d (.cx .f32 g_.Feeder.Source.B.re g_.Feeder.Source.B.im), .d (.cx .f32 g_.Feeder.Source.C.re g_.Feeder.Source.C.im), .d (.sl false (g_.Feeder.Buses.map eSBus)), .d (.sl false (g_.Ties.map eSTie))], .d (.int .i64 bus_), .d (.sl false (closed_.map eInti64))] [] (fun v o new => v = .tup [.d (.bool r.1), .d (.bool r.2)] ∧ o = [] ∧ new = []) := by
  refine acall_of_aw hτ func14 rfl (by simp) (by simp) ?_
  unfold m_impl_HasLoop at h
  refine aw_seq ?_
  refine aw_region ?_
  refine awl_valH hτ rfl rfl rfl ?_
  refine awl_val hτ rfl rfl rfl ?_
  refine awl_val hτ rfl rfl rfl ?_
  refine awl_nil ?_
  refine aw_seq ?_
  refine aw_seq ?_
  refine aw_region ?_
  refine awl_val hτ rfl rfl rfl ?_
  refine awl_val hτ rfl rfl rfl ?_
  refine bnd_elim h fun x4 hx4 h => ?_
  refine awl_callP hτ false [0] rfl rfl rfl (enterOk func38 rfl rfl) rfl rfl (by simp) ⟨trivial, trivial, trivial, trivial⟩ (by repeat' first | exact trivial | refine ⟨?_, ?_⟩) (impl_Grid_closing_ok n g_ bus_ closed_ hx4) ?_
  rintro r0 o0 n0 ⟨rfl, rfl, rfl⟩ -
  refine awl_val hτ rfl rfl rfl ?_
  refine awl_nil ?_
  refine aw_weak (weak_ofP [0] (l := [(1, .d (.int .i64 bus_)), (2, .d (.sl false (closed_.map eInti64))), (3, .ptr 0 0), (11, .d (.bool (!x4)))]) (objs := [.box [.d (.cx .f32 g_.Feeder.Source.A.re g_.Feeder.Source.A.im), .d (.cx .f32 g_.Feeder.Source.B.re g_.Feeder.Source.B.im), .d (.cx .f32 g_.Feeder.Source.C.re g_.Feeder.Source.C.im), .d (.sl false (g_.Feeder.Buses.map eSBus)), .d (.sl false (g_.Ties.map eSTie))]]) rfl (by simp) rfl (by repeat' first | exact trivial | refine ⟨?_, ?_⟩) ⟨rfl, trivial, rfl, trivial, rfl, trivial, rfl, trivial, trivial⟩) ?_
  refine aw_cond rfl (fun hc5 => ?_) (fun hc5 => ?_)
  · have hc5 := not_t hc5
    have h := if_bf h hc5
    refine aw_seq ?_
    refine aw_region ?_
    refine awl_val hτ rfl rfl rfl ?_
    refine awl_val hτ rfl rfl rfl ?_
    refine awl_nil ?_
    refine aw_weak (weak_ofP [] (l := [(6, .d (.bool false)), (7, .d (.bool false))]) (objs := []) rfl (by simp) rfl (by repeat' first | exact trivial | refine ⟨?_, ?_⟩) ⟨rfl, trivial, rfl, trivial, trivial⟩) ?_
    refine aw_ret ?_
    have hr := Option.some.inj h
    subst hr
    exact ret_objs (.inr rfl) [] (objs' := []) (new := []) rfl (by simp) (by simp) rfl (by repeat' first | exact trivial | refine ⟨?_, ?_⟩) rfl rfl (by repeat' first | exact trivial | refine ⟨?_, ?_⟩) (fun _ => ⟨by simp [V.flat, V.flatA, V.flatC, D.flat], flat_nil⟩) ⟨rfl, rfl, rfl⟩
  · have hc5 := not_f hc5
    have h := if_bt h hc5
    refine aw_skip ?_
    refine aw_seq ?_
    refine aw_region ?_
    refine awl_val hτ rfl rfl rfl ?_
    refine awl_val hτ rfl rfl rfl ?_
    refine bnd_elim h fun x6 hx6 h => ?_
    refine awl_callP hτ false [0] rfl rfl rfl (enterOk func41 rfl rfl) rfl rfl (by simp) ⟨trivial, trivial, trivial, trivial⟩ (by repeat' first | exact trivial | refine ⟨?_, ?_⟩) (impl_Grid_loops_ok n g_ bus_ closed_ hx6) ?_
    rintro r0 o0 n0 ⟨rfl, rfl, rfl⟩ -
    refine awl_val hτ rfl rfl rfl ?_
    refine awl_val hτ rfl rfl rfl ?_
    refine awl_nil ?_
    refine aw_weak (weak_ofP [] (l := [(6, .d (.bool x6)), (7, .d (.bool true))]) (objs := []) rfl (by simp) rfl (by repeat' first | exact trivial | refine ⟨?_, ?_⟩) ⟨rfl, trivial, rfl, trivial, trivial⟩) ?_
    refine aw_ret ?_
    have hr := Option.some.inj h
    subst hr
    exact ret_objs (.inr rfl) [] (objs' := []) (new := []) rfl (by simp) (by simp) rfl (by repeat' first | exact trivial | refine ⟨?_, ?_⟩) rfl rfl (by repeat' first | exact trivial | refine ⟨?_, ?_⟩) (fun _ => ⟨by simp [V.flat, V.flatA, V.flatC, D.flat], flat_nil⟩) ⟨rfl, rfl, rfl⟩
theorem impl_HasLoop_ok (n : Nat) (g_ : SGrid) (bus_ : Int) (closed_ : List Int) {r : Bool × Bool} (h : m_impl_HasLoop n g_ bus_ closed_ = some r) : ACall prog false 14 [.agg [.d (.cx .f32 g_.Feeder.Source.A.re g_.Feeder.Source.A.im), .d (.cx .f32 g_.Feeder.Source.B.re g_.Feeder.Source.B.im), .d (.cx .f32 g_.Feeder.Source.C.re g_.Feeder.Source.C.im), .d (.sl false (g_.Feeder.Buses.map eSBus)), .d (.sl false (g_.Ties.map eSTie))], .d (.int .i64 bus_), .d (.sl false (closed_.map eInti64))] [] (fun v o new => v = .tup [.d (.bool r.1), .d (.bool r.2)] ∧ o = [] ∧ new = []) := impl_HasLoop_ok_fr0 false n g_ bus_ closed_ h
theorem impl_HasLoop_ok_fr (n : Nat) (g_ : SGrid) (bus_ : Int) (closed_ : List Int) {r : Bool × Bool} (h : m_impl_HasLoop n g_ bus_ closed_ = some r) : ACall prog true 14 [.agg [.d (.cx .f32 g_.Feeder.Source.A.re g_.Feeder.Source.A.im), .d (.cx .f32 g_.Feeder.Source.B.re g_.Feeder.Source.B.im), .d (.cx .f32 g_.Feeder.Source.C.re g_.Feeder.Source.C.im), .d (.sl false (g_.Feeder.Buses.map eSBus)), .d (.sl false (g_.Ties.map eSTie))], .d (.int .i64 bus_), .d (.sl false (closed_.map eInti64))] [] (fun v o new => v = .tup [.d (.bool r.1), .d (.bool r.2)] ∧ o = [] ∧ new = []) := impl_HasLoop_ok_fr0 true n g_ bus_ closed_ h

def m_slices_Clone (n : Nat) (s_ : List Int) : Option (List Int) :=
  grd (room (([] : List Int).length + s_.length) 8) <|
  some (([] : List Int) ++ s_)
theorem slices_Clone_ok_fr0 (fr : Bool) (n : Nat) (s_ : List Int) {r : List Int} (h : m_slices_Clone n s_ = some r) : ACall prog fr 70 [.d (.sl false (s_.map eInti64))] [] (fun v o new => v = .row 0 r.length 0 r.length ∧ o = [] ∧ new = [.row 1 (r.map eInti64)]) := by
  refine acall_of_aw hτ func70 rfl (by simp) (by simp) ?_
  unfold m_slices_Clone at h
  refine aw_seq ?_
  refine aw_region ?_
  refine awl_val hτ rfl rfl rfl ?_
  refine awl_nil ?_
  refine aw_seq ?_
  refine aw_seq ?_
  refine aw_region ?_
  refine awl_val hτ rfl rfl rfl ?_
  refine awl_xpick rfl rfl (x_nileq hτ rfl rfl rfl rfl rfl) fun q4 hq4 => ?_
  refine awl_nil ?_
  refine aw_cond rfl (fun hc5 => ?_) (fun hc5 => ?_)
  · have hl := List.map_eq_nil_iff.1 (hq4 (by simpa using hc5))
    subst hl
    replace h : (some ([] : List Int)) = some r := by simpa [grd, room] using h
    refine aw_seq ?_
    refine aw_region ?_
    refine awl_val hτ rfl rfl rfl ?_
    refine awl_nil ?_
    refine aw_weak (weak_ofP [] (l := [(2, .d (.nils))]) (objs := []) rfl (by simp) rfl (by repeat' first | exact trivial | refine ⟨?_, ?_⟩) ⟨rfl, trivial, trivial⟩) ?_
    refine aw_weak (weak_relax [1] (l' := [(2, .row 0 (([] : List Int).length) 0 (([] : List Int).length))]) (objs' := []) (.cons (.c (.ghost ⟨Nat.le_of_ble_eq_true rfl, Nat.le_of_ble_eq_true rfl⟩)) .nil) .nil) ?_
    refine aw_ret ?_
    have hr := Option.some.inj h
    subst hr
    exact ret_objs (.inr rfl) [0] (objs' := []) (new := [.row 1 (([] : List Int).map eInti64)]) rfl (by simp) (by simp) rfl (by repeat' first | exact trivial | refine ⟨?_, ?_⟩) rfl rfl (by repeat' first | exact trivial | refine ⟨?_, ?_⟩) (fun _ => ⟨by simp [V.flat, V.flatA, V.flatC, D.flat], (flat_cons (flat_row eInti64_flat _) flat_nil)⟩) ⟨rfl, rfl, rfl⟩
  · refine aw_skip ?_
    refine aw_seq ?_
    refine aw_region ?_
    refine awl_valH hτ rfl rfl rfl ?_
    refine awl_val hτ rfl rfl rfl ?_
    refine grd_elim h fun hg6 h => ?_
    refine awl_needH hτ rfl rfl (Eq.trans rfl (or_append (f := eInti64) ([] : List Int) s_ rfl)) ⟨trivial, len_map _, rfl, rfl, (room_map (f := eInti64) hg6), by decide, (map_lens (f := eInti64) (fun _ => rfl) _)⟩ ?_
    refine awl_val hτ rfl rfl rfl ?_
    refine awl_nil ?_
    refine aw_weak (weak_ofP [0] (l := [(2, .row 0 ((([] : List Int) ++ s_).length) 0 ((([] : List Int) ++ s_).length))]) (objs := [.row 1 ((([] : List Int) ++ s_).map eInti64)]) rfl (by simp) rfl (by repeat' first | exact trivial | refine ⟨?_, ?_⟩) ⟨rfl, trivial, trivial⟩) ?_
    refine aw_ret ?_
    have hr := Option.some.inj h
    subst hr
    exact ret_objs (.inr rfl) [0] (objs' := []) (new := [.row 1 ((([] : List Int) ++ s_).map eInti64)]) rfl (by simp) (by simp) rfl (by repeat' first | exact trivial | refine ⟨?_, ?_⟩) rfl rfl (by repeat' first | exact trivial | refine ⟨?_, ?_⟩) (fun _ => ⟨by simp [V.flat, V.flatA, V.flatC, D.flat], (flat_cons (flat_row eInti64_flat _) flat_nil)⟩) ⟨rfl, rfl, rfl⟩
theorem slices_Clone_ok (n : Nat) (s_ : List Int) {r : List Int} (h : m_slices_Clone n s_ = some r) : ACall prog false 70 [.d (.sl false (s_.map eInti64))] [] (fun v o new => v = .row 0 r.length 0 r.length ∧ o = [] ∧ new = [.row 1 (r.map eInti64)]) := slices_Clone_ok_fr0 false n s_ h
theorem slices_Clone_ok_fr (n : Nat) (s_ : List Int) {r : List Int} (h : m_slices_Clone n s_ = some r) : ACall prog true 70 [.d (.sl false (s_.map eInti64))] [] (fun v o new => v = .row 0 r.length 0 r.length ∧ o = [] ∧ new = [.row 1 (r.map eInti64)]) := slices_Clone_ok_fr0 true n s_ h

def m_slices_Delete (n : Nat) (l : List Int) (i j : Int) : Option (List Int) := deleteM l i j
theorem slices_Delete_ok (n : Nat) (l : List Int) (i j : Int) {r : List Int} (h : m_slices_Delete n l i j = some r) : ACall prog false 69 [.row 0 l.length 0 l.length, .d (.int .i64 i), .d (.int .i64 j)] [.row 1 (l.map eInti64)] (fun v o new => v = .row 0 l.length 0 (l.length - (j.toNat - i.toNat)) ∧ o = [.row 1 (r.map eInti64)] ∧ new = []) := delete_does (fun _ => rfl) h
theorem slices_Delete_ok_fr (n : Nat) (l : List Int) (i j : Int) {r : List Int} (h : m_slices_Delete n l i j = some r) : ACall prog true 69 [.row 0 l.length 0 l.length, .d (.int .i64 i), .d (.int .i64 j)] [.row 1 (l.map eInti64)] (fun v o new => v = .row 0 l.length 0 (l.length - (j.toNat - i.toNat)) ∧ o = [.row 1 (r.map eInti64)] ∧ new = []) := delete_does (fun _ => rfl) h

def m_impl_Feeder_customers_l1 (n : Nat) (f_ : SGrid) (buses_ : List Int) : Nat → Int → Int → Option Int
  | 0, _, _ => none
  | m17 + 1, v11, v12 =>
    if v12 < (buses_.length : Int) then
      (getI buses_ v12).bind fun x20 =>
      (getI f_.Feeder.Buses x20).bind fun x21 =>
      (m_impl_Feeder_customers_l1 n f_ buses_ m17) (w64 (v11 + x21.Customers)) (w64 (v12 + (1 : Int)))
    else
      some v11
def m_impl_Feeder_customers (n : Nat) (f_ : SGrid) (buses_ : List Int) : Option Int :=
  m_impl_Feeder_customers_l1 n f_ buses_ n (0 : Int) (0 : Int)
theorem impl_Feeder_customers_ok (n : Nat) (f_ : SGrid) (buses_ : List Int) {r : Int} (h : m_impl_Feeder_customers n f_ buses_ = some r) : ACall prog false 71 [.ptr 0 0, .d (.sl false (buses_.map eInti64))] [.box [.d (.cx .f32 f_.Feeder.Source.A.re f_.Feeder.Source.A.im), .d (.cx .f32 f_.Feeder.Source.B.re f_.Feeder.Source.B.im), .d (.cx .f32 f_.Feeder.Source.C.re f_.Feeder.Source.C.im), .d (.sl false (f_.Feeder.Buses.map eSBus)), .d (.sl false (f_.Ties.map eSTie))]] (fun v o new => v = .d (.int .i64 r) ∧ o = [.box [.d (.cx .f32 f_.Feeder.Source.A.re f_.Feeder.Source.A.im), .d (.cx .f32 f_.Feeder.Source.B.re f_.Feeder.Source.B.im), .d (.cx .f32 f_.Feeder.Source.C.re f_.Feeder.Source.C.im), .d (.sl false (f_.Feeder.Buses.map eSBus)), .d (.sl false (f_.Ties.map eSTie))]] ∧ new = []) := by
  refine acall_of_aw hτ func71 rfl (by simp) (by simp) ?_
  unfold m_impl_Feeder_customers at h
  refine aw_seq ?_
  refine aw_region ?_
  refine awl_val hτ rfl rfl rfl ?_
  refine awl_nil ?_
  refine aw_seq ?_
  refine aw_region ?_
  refine awl_val hτ rfl rfl rfl ?_
  refine awl_nil ?_
  refine aw_seq ?_
  refine aw_seq ?_
  refine aw_region ?_
  refine awl_val hτ rfl rfl rfl ?_
  refine awl_val hτ (v := .d (.int .i64 (buses_.length : Int))) rfl rfl (Eq.trans rfl (or_len (f := eInti64) buses_)) ?_
  refine awl_val hτ rfl rfl rfl ?_
  refine awl_nil ?_
  refine aw_block ?_
  refine aw_loop (ι := Nat × Int × Int) (fun (m17, v11, v12) => St.of [(0, .ptr 0 0), (5, .d (.int .i64 v11)), (8, .d (.sl false (buses_.map eInti64))), (9, .d (.int .i64 (buses_.length : Int))), (10, .d (.int .i64 v12))] [.box [.d (.cx .f32 f_.Feeder.Source.A.re f_.Feeder.Source.A.im), .d (.cx .f32 f_.Feeder.Source.B.re f_.Feeder.Source.B.im), .d (.cx .f32 f_.Feeder.Source.C.re f_.Feeder.Source.C.im), .d (.sl false (f_.Feeder.Buses.map eSBus)), .d (.sl false (f_.Ties.map eSTie))]] f71.ntmps 1) (fun (m17, v11, v12) => m_impl_Feeder_customers_l1 n f_ buses_ m17 v11 v12 = some r) (fun x => x.1) (n, (0 : Int), (0 : Int)) h (weak_ofP [0] (l := [(0, .ptr 0 0), (5, .d (.int .i64 (0 : Int))), (8, .d (.sl false (buses_.map eInti64))), (9, .d (.int .i64 (buses_.length : Int))), (10, .d (.int .i64 (0 : Int)))]) (objs := [.box [.d (.cx .f32 f_.Feeder.Source.A.re f_.Feeder.Source.A.im), .d (.cx .f32 f_.Feeder.Source.B.re f_.Feeder.Source.B.im), .d (.cx .f32 f_.Feeder.Source.C.re f_.Feeder.Source.C.im), .d (.sl false (f_.Feeder.Buses.map eSBus)), .d (.sl false (f_.Ties.map eSTie))]]) rfl (by simp) rfl (by repeat' first | exact trivial | refine ⟨?_, ?_⟩) ⟨rfl, trivial, rfl, trivial, rfl, trivial, rfl, trivial, rfl, trivial, trivial⟩) ?_
  rintro ⟨m17, v11, v12⟩ h
  replace h : m_impl_Feeder_customers_l1 n f_ buses_ m17 v11 v12 = some r := h
  rcases m17 with _ | m17
  · rw [m_impl_Feeder_customers_l1] at h; cases h
  rw [m_impl_Feeder_customers_l1] at h
  refine aw_seq ?_
  refine aw_region ?_
  refine awl_val hτ rfl rfl rfl ?_
  refine awl_nil ?_
  refine aw_seq ?_
  refine aw_cond rfl (fun hc19 => ?_) (fun hc19 => ?_)
  · have h := if_t h hc19
    refine aw_skip ?_
    refine aw_seq ?_
    refine aw_block ?_
    refine aw_seq ?_
    refine aw_region ?_
    refine bnd_elim h fun x20 hx20 h => ?_
    refine awl_elem hτ rfl rfl rfl (getI_some hx20).1 (map_getI hx20) rfl ?_
    refine awl_val hτ rfl rfl rfl ?_
    refine awl_val hτ rfl rfl rfl ?_
    refine awl_nil ?_
    refine aw_region ?_
    refine awl_val hτ rfl rfl rfl ?_
    refine awl_val hτ rfl rfl rfl ?_
    refine awl_val hτ rfl rfl rfl ?_
    refine awl_val hτ rfl rfl rfl ?_
    refine awl_val hτ rfl rfl rfl ?_
    refine awl_val hτ rfl rfl rfl ?_
    refine bnd_elim h fun x21 hx21 h => ?_
    refine awl_elem hτ rfl rfl rfl (getI_some hx21).1 (map_getI hx21) rfl ?_
    refine awl_val hτ rfl rfl rfl ?_
    refine awl_weak (weak_ofP [0] (l := [(0, .ptr 0 0), (5, .d (.int .i64 v11)), (8, .d (.sl false (buses_.map eInti64))), (9, .d (.int .i64 (buses_.length : Int))), (10, .d (.int .i64 v12)), (14, .d (.int .i64 v11)), (21, .rop [.int .i64 x21.Parent, .cx .f32 x21.Own.re x21.Own.im, .cx .f32 x21.Shared.re x21.Shared.im, .int .i64 x21.Kind, .cx .f32 x21.Load.A.re x21.Load.A.im, .cx .f32 x21.Load.B.re x21.Load.B.im, .cx .f32 x21.Load.C.re x21.Load.C.im, .int .i64 x21.Customers] 7)]) (objs := [.box [.d (.cx .f32 f_.Feeder.Source.A.re f_.Feeder.Source.A.im), .d (.cx .f32 f_.Feeder.Source.B.re f_.Feeder.Source.B.im), .d (.cx .f32 f_.Feeder.Source.C.re f_.Feeder.Source.C.im), .d (.sl false (f_.Feeder.Buses.map eSBus)), .d (.sl false (f_.Ties.map eSTie))]]) rfl (by simp) rfl (by repeat' first | exact trivial | refine ⟨?_, ?_⟩) ⟨rfl, trivial, rfl, trivial, rfl, trivial, rfl, trivial, rfl, trivial, rfl, trivial, rfl, trivial, trivial⟩) ?_
    refine awl_val hτ rfl rfl rfl ?_
    refine awl_val hτ rfl rfl rfl ?_
    refine awl_val hτ rfl rfl rfl ?_
    refine awl_nil ?_
    refine aw_region ?_
    refine awl_val hτ rfl rfl rfl ?_
    refine awl_val hτ rfl rfl rfl ?_
    refine awl_nil ?_
    exact ⟨(m17, (w64 (v11 + x21.Customers)), (w64 (v12 + (1 : Int)))), h, Nat.lt_succ_self m17, (weak_ofP [0] (l := [(0, .ptr 0 0), (5, .d (.int .i64 (w64 (v11 + x21.Customers)))), (8, .d (.sl false (buses_.map eInti64))), (9, .d (.int .i64 (buses_.length : Int))), (10, .d (.int .i64 (w64 (v12 + (1 : Int)))))]) (objs := [.box [.d (.cx .f32 f_.Feeder.Source.A.re f_.Feeder.Source.A.im), .d (.cx .f32 f_.Feeder.Source.B.re f_.Feeder.Source.B.im), .d (.cx .f32 f_.Feeder.Source.C.re f_.Feeder.Source.C.im), .d (.sl false (f_.Feeder.Buses.map eSBus)), .d (.sl false (f_.Ties.map eSTie))]]) rfl (by simp) rfl (by repeat' first | exact trivial | refine ⟨?_, ?_⟩) ⟨rfl, trivial, rfl, trivial, rfl, trivial, rfl, trivial, rfl, trivial, trivial⟩)⟩
  · have h := if_f h hc19
    refine aw_exit ?_
    refine aw_seq ?_
    refine aw_region ?_
    refine awl_val hτ rfl rfl rfl ?_
    refine awl_val hτ rfl rfl rfl ?_
    refine awl_nil ?_
    refine aw_weak (weak_ofP [0] (l := [(4, .d (.int .i64 v11))]) (objs := [.box [.d (.cx .f32 f_.Feeder.Source.A.re f_.Feeder.Source.A.im), .d (.cx .f32 f_.Feeder.Source.B.re f_.Feeder.Source.B.im), .d (.cx .f32 f_.Feeder.Source.C.re f_.Feeder.Source.C.im), .d (.sl false (f_.Feeder.Buses.map eSBus)), .d (.sl false (f_.Ties.map eSTie))]]) rfl (by simp) rfl (by repeat' first | exact trivial | refine ⟨?_, ?_⟩) ⟨rfl, trivial, trivial⟩) ?_
    refine aw_ret ?_
    have hr := Option.some.inj h
    subst hr
    exact ret_objs (.inr rfl) [] (objs' := [.box [.d (.cx .f32 f_.Feeder.Source.A.re f_.Feeder.Source.A.im), .d (.cx .f32 f_.Feeder.Source.B.re f_.Feeder.Source.B.im), .d (.cx .f32 f_.Feeder.Source.C.re f_.Feeder.Source.C.im), .d (.sl false (f_.Feeder.Buses.map eSBus)), .d (.sl false (f_.Ties.map eSTie))]]) (new := []) rfl (by simp) (by simp) rfl (by repeat' first | exact trivial | refine ⟨?_, ?_⟩) rfl rfl (by repeat' first | exact trivial | refine ⟨?_, ?_⟩) (fun h => nomatch h) ⟨rfl, rfl, rfl⟩

def m_impl_Feeder_customers_2_l1 (n : Nat) (f_ : SGrid) (buses_ : List Int) : Nat → Int → Int → Option Int
  | 0, _, _ => none
  | m17 + 1, v11, v12 =>
    if v12 < (buses_.length : Int) then
      (getI buses_ v12).bind fun x20 =>
      (getI f_.Feeder.Buses x20).bind fun x21 =>
      (m_impl_Feeder_customers_2_l1 n f_ buses_ m17) (w64 (v11 + x21.Customers)) (w64 (v12 + (1 : Int)))
    else
      some v11
def m_impl_Feeder_customers_2 (n : Nat) (f_ : SGrid) (buses_ : List Int) : Option Int :=
  m_impl_Feeder_customers_2_l1 n f_ buses_ n (0 : Int) (0 : Int)
theorem impl_Feeder_customers_2_ok (n : Nat) (f_ : SGrid) (buses_ : List Int) {r : Int} (h : m_impl_Feeder_customers_2 n f_ buses_ = some r) : ACall prog false 71 [.ptr 0 0, .row 1 buses_.length 0 buses_.length] [.box [.d (.cx .f32 f_.Feeder.Source.A.re f_.Feeder.Source.A.im), .d (.cx .f32 f_.Feeder.Source.B.re f_.Feeder.Source.B.im), .d (.cx .f32 f_.Feeder.Source.C.re f_.Feeder.Source.C.im), .d (.sl false (f_.Feeder.Buses.map eSBus)), .d (.sl false (f_.Ties.map eSTie))], .row 1 (buses_.map eInti64)] (fun v o new => v = .d (.int .i64 r) ∧ o = [.box [.d (.cx .f32 f_.Feeder.Source.A.re f_.Feeder.Source.A.im), .d (.cx .f32 f_.Feeder.Source.B.re f_.Feeder.Source.B.im), .d (.cx .f32 f_.Feeder.Source.C.re f_.Feeder.Source.C.im), .d (.sl false (f_.Feeder.Buses.map eSBus)), .d (.sl false (f_.Ties.map eSTie))], .row 1 (buses_.map eInti64)] ∧ new = []) := by
  refine acall_of_aw hτ func71 rfl (by simp) (by simp) ?_
  unfold m_impl_Feeder_customers_2 at h
  refine aw_seq ?_
  refine aw_region ?_
  refine awl_val hτ rfl rfl rfl ?_
  refine awl_nil ?_
  refine aw_seq ?_
  refine aw_region ?_
  refine awl_val hτ rfl rfl rfl ?_
  refine awl_nil ?_
  refine aw_seq ?_
  refine aw_seq ?_
  refine aw_region ?_
  refine awl_val hτ rfl rfl rfl ?_
  refine awl_need hτ rfl rfl rfl (len_map _) ?_
  refine awl_val hτ rfl rfl rfl ?_
  refine awl_nil ?_
  refine aw_block ?_
  refine aw_loop (ι := Nat × Int × Int) (fun (m17, v11, v12) => St.of [(0, .ptr 0 0), (5, .d (.int .i64 v11)), (8, .row 1 buses_.length 0 buses_.length), (9, .d (.int .i64 (buses_.length : Int))), (10, .d (.int .i64 v12))] [.box [.d (.cx .f32 f_.Feeder.Source.A.re f_.Feeder.Source.A.im), .d (.cx .f32 f_.Feeder.Source.B.re f_.Feeder.Source.B.im), .d (.cx .f32 f_.Feeder.Source.C.re f_.Feeder.Source.C.im), .d (.sl false (f_.Feeder.Buses.map eSBus)), .d (.sl false (f_.Ties.map eSTie))], .row 1 (buses_.map eInti64)] f71.ntmps 2) (fun (m17, v11, v12) => m_impl_Feeder_customers_2_l1 n f_ buses_ m17 v11 v12 = some r) (fun x => x.1) (n, (0 : Int), (0 : Int)) h (weak_ofP [0, 1] (l := [(0, .ptr 0 0), (5, .d (.int .i64 (0 : Int))), (8, .row 1 buses_.length 0 buses_.length), (9, .d (.int .i64 (buses_.length : Int))), (10, .d (.int .i64 (0 : Int)))]) (objs := [.box [.d (.cx .f32 f_.Feeder.Source.A.re f_.Feeder.Source.A.im), .d (.cx .f32 f_.Feeder.Source.B.re f_.Feeder.Source.B.im), .d (.cx .f32 f_.Feeder.Source.C.re f_.Feeder.Source.C.im), .d (.sl false (f_.Feeder.Buses.map eSBus)), .d (.sl false (f_.Ties.map eSTie))], .row 1 (buses_.map eInti64)]) rfl (by simp) rfl (by repeat' first | exact trivial | refine ⟨?_, ?_⟩) ⟨rfl, trivial, rfl, trivial, rfl, trivial, rfl, trivial, rfl, trivial, trivial⟩) ?_
  rintro ⟨m17, v11, v12⟩ h
  replace h : m_impl_Feeder_customers_2_l1 n f_ buses_ m17 v11 v12 = some r := h
  rcases m17 with _ | m17
  · rw [m_impl_Feeder_customers_2_l1] at h; cases h
  rw [m_impl_Feeder_customers_2_l1] at h
  refine aw_seq ?_
  refine aw_region ?_
  refine awl_val hτ rfl rfl rfl ?_
  refine awl_nil ?_
  refine aw_seq ?_
  refine aw_cond rfl (fun hc19 => ?_) (fun hc19 => ?_)
  · have h := if_t h hc19
    refine aw_skip ?_
    refine aw_seq ?_
    refine aw_block ?_
    refine aw_seq ?_
    refine aw_region ?_
    refine bnd_elim h fun x20 hx20 h => ?_
    refine awl_need hτ rfl rfl rfl (row_need hx20) ?_
    refine awl_elem hτ rfl rfl rfl (len_map _) (row_get hx20) rfl ?_
    refine awl_val hτ rfl rfl rfl ?_
    refine awl_nil ?_
    refine aw_region ?_
    refine awl_val hτ rfl rfl rfl ?_
    refine awl_val hτ rfl rfl rfl ?_
    refine awl_val hτ rfl rfl rfl ?_
    refine awl_val hτ rfl rfl rfl ?_
    refine awl_val hτ rfl rfl rfl ?_
    refine awl_val hτ rfl rfl rfl ?_
    refine bnd_elim h fun x21 hx21 h => ?_
    refine awl_elem hτ rfl rfl rfl (getI_some hx21).1 (map_getI hx21) rfl ?_
    refine awl_val hτ rfl rfl rfl ?_
    refine awl_weak (weak_ofP [0, 1] (l := [(0, .ptr 0 0), (5, .d (.int .i64 v11)), (8, .row 1 buses_.length 0 buses_.length), (9, .d (.int .i64 (buses_.length : Int))), (10, .d (.int .i64 v12)), (14, .d (.int .i64 v11)), (21, .rop [.int .i64 x21.Parent, .cx .f32 x21.Own.re x21.Own.im, .cx .f32 x21.Shared.re x21.Shared.im, .int .i64 x21.Kind, .cx .f32 x21.Load.A.re x21.Load.A.im, .cx .f32 x21.Load.B.re x21.Load.B.im, .cx .f32 x21.Load.C.re x21.Load.C.im, .int .i64 x21.Customers] 7)]) (objs := [.box [.d (.cx .f32 f_.Feeder.Source.A.re f_.Feeder.Source.A.im), .d (.cx .f32 f_.Feeder.Source.B.re f_.Feeder.Source.B.im), .d (.cx .f32 f_.Feeder.Source.C.re f_.Feeder.Source.C.im), .d (.sl false (f_.Feeder.Buses.map eSBus)), .d (.sl false (f_.Ties.map eSTie))], .row 1 (buses_.map eInti64)]) rfl (by simp) rfl (by repeat' first | exact trivial | refine ⟨?_, ?_⟩) ⟨rfl, trivial, rfl, trivial, rfl, trivial, rfl, trivial, rfl, trivial, rfl, trivial, rfl, trivial, trivial⟩) ?_
    refine awl_val hτ rfl rfl rfl ?_
    refine awl_val hτ rfl rfl rfl ?_
    refine awl_val hτ rfl rfl rfl ?_
    refine awl_nil ?_
    refine aw_region ?_
    refine awl_val hτ rfl rfl rfl ?_
    refine awl_val hτ rfl rfl rfl ?_
    refine awl_nil ?_
    exact ⟨(m17, (w64 (v11 + x21.Customers)), (w64 (v12 + (1 : Int)))), h, Nat.lt_succ_self m17, (weak_ofP [0, 1] (l := [(0, .ptr 0 0), (5, .d (.int .i64 (w64 (v11 + x21.Customers)))), (8, .row 1 buses_.length 0 buses_.length), (9, .d (.int .i64 (buses_.length : Int))), (10, .d (.int .i64 (w64 (v12 + (1 : Int)))))]) (objs := [.box [.d (.cx .f32 f_.Feeder.Source.A.re f_.Feeder.Source.A.im), .d (.cx .f32 f_.Feeder.Source.B.re f_.Feeder.Source.B.im), .d (.cx .f32 f_.Feeder.Source.C.re f_.Feeder.Source.C.im), .d (.sl false (f_.Feeder.Buses.map eSBus)), .d (.sl false (f_.Ties.map eSTie))], .row 1 (buses_.map eInti64)]) rfl (by simp) rfl (by repeat' first | exact trivial | refine ⟨?_, ?_⟩) ⟨rfl, trivial, rfl, trivial, rfl, trivial, rfl, trivial, rfl, trivial, trivial⟩)⟩
  · have h := if_f h hc19
    refine aw_exit ?_
    refine aw_seq ?_
    refine aw_region ?_
    refine awl_val hτ rfl rfl rfl ?_
    refine awl_val hτ rfl rfl rfl ?_
    refine awl_nil ?_
    refine aw_weak (weak_ofP [0, 1] (l := [(4, .d (.int .i64 v11))]) (objs := [.box [.d (.cx .f32 f_.Feeder.Source.A.re f_.Feeder.Source.A.im), .d (.cx .f32 f_.Feeder.Source.B.re f_.Feeder.Source.B.im), .d (.cx .f32 f_.Feeder.Source.C.re f_.Feeder.Source.C.im), .d (.sl false (f_.Feeder.Buses.map eSBus)), .d (.sl false (f_.Ties.map eSTie))], .row 1 (buses_.map eInti64)]) rfl (by simp) rfl (by repeat' first | exact trivial | refine ⟨?_, ?_⟩) ⟨rfl, trivial, trivial⟩) ?_
    refine aw_ret ?_
    have hr := Option.some.inj h
    subst hr
    exact ret_objs (.inr rfl) [] (objs' := [.box [.d (.cx .f32 f_.Feeder.Source.A.re f_.Feeder.Source.A.im), .d (.cx .f32 f_.Feeder.Source.B.re f_.Feeder.Source.B.im), .d (.cx .f32 f_.Feeder.Source.C.re f_.Feeder.Source.C.im), .d (.sl false (f_.Feeder.Buses.map eSBus)), .d (.sl false (f_.Ties.map eSTie))], .row 1 (buses_.map eInti64)]) (new := []) rfl (by simp) (by simp) rfl (by repeat' first | exact trivial | refine ⟨?_, ?_⟩) rfl rfl (by repeat' first | exact trivial | refine ⟨?_, ?_⟩) (fun h => nomatch h) ⟨rfl, rfl, rfl⟩

end Go.Proofs.YtkagbffdmppbhaaDoor.AWN
