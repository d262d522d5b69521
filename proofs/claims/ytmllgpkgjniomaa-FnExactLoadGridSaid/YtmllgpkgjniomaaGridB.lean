/- Models and contracts, printed by program. -/
import Derived.Test.YtmllgpkgjniomaaGridA
set_option linter.unusedVariables false
set_option linter.unusedSimpArgs false
set_option linter.unusedSectionVars false
set_option maxHeartbeats 2000000
namespace Go.Proofs.Ytmllgpkgjniomaa.AWN
open Go Go.Proofs.Try

def m_impl_FromBits (n : Nat) (n_ : Int) : Option (Nat × Bool) :=
  (m_impl_in n n_ (0 : Int) (4294967295 : Int)).bind fun x4 =>
  if x4 = true then
    grd ((IntKind.wrap .u32 (n_)).toNat < 4294967296) <|
    some ((canon .f32 (IntKind.wrap .u32 (n_)).toNat), true)
  else
    some ((0 : Nat), false)
theorem impl_FromBits_ok_fr0 (fr : Bool) (n : Nat) (n_ : Int) {r : Nat × Bool} (h : m_impl_FromBits n n_ = some r) : ACall prog fr 174 [.d (.int .i64 n_)] [] (fun v o new => v = .tup [.d (.fl .f32 r.1), .d (.bool r.2)] ∧ o = [] ∧ new = []) := by
  refine acall_of_aw hτ func174 rfl (by simp) (by simp) ?_
  unfold m_impl_FromBits at h
  refine aw_seq ?_
  refine aw_region ?_
  refine awl_val hτ rfl rfl rfl ?_
  refine awl_val hτ rfl rfl rfl ?_
  refine awl_nil ?_
  refine aw_seq ?_
  refine aw_seq ?_
  refine aw_region ?_
  refine awl_val hτ rfl rfl rfl ?_
  refine bnd_elim h fun x4 hx4 h => ?_
  refine awl_callP hτ false [] rfl rfl rfl (enterOk func62 rfl rfl) rfl rfl (by simp) ⟨trivial, trivial, trivial, trivial⟩ (by repeat' first | exact trivial | refine ⟨?_, ?_⟩) (impl_in_ok n n_ (0 : Int) (4294967295 : Int) hx4) ?_
  rintro r0 o0 n0 ⟨rfl, rfl, rfl⟩ -
  refine awl_val hτ rfl rfl rfl ?_
  refine awl_nil ?_
  refine aw_cond rfl (fun hc5 => ?_) (fun hc5 => ?_)
  · have hc5 := not_t hc5
    have h := if_bf h hc5
    refine aw_seq ?_
    refine aw_region ?_
    refine awl_val hτ rfl rfl rfl ?_
    refine awl_val hτ rfl rfl rfl ?_
    refine awl_nil ?_
    refine aw_weak (weak_ofP [] (l := [(2, .d (.fl .f32 (0 : Nat))), (3, .d (.bool false))]) (objs := []) rfl (by simp) rfl (by repeat' first | exact trivial | refine ⟨?_, ?_⟩) ⟨rfl, trivial, rfl, trivial, trivial⟩) ?_
    refine aw_ret ?_
    have hr := Option.some.inj h
    subst hr
    exact ret_objs (.inr rfl) [] (objs' := []) (new := []) rfl (by simp) (by simp) rfl (by repeat' first | exact trivial | refine ⟨?_, ?_⟩) rfl rfl (by repeat' first | exact trivial | refine ⟨?_, ?_⟩) (fun _ => ⟨by simp [V.flat, V.flatA, V.flatC, D.flat], flat_nil⟩) ⟨rfl, rfl, rfl⟩
  · have hc5 := not_f hc5
    have h := if_bt h hc5
    refine aw_skip ?_
    refine aw_seq ?_
    refine aw_region ?_
    refine awl_val hτ rfl rfl rfl ?_
    refine awl_val hτ rfl rfl rfl ?_
    refine grd_elim h fun hg6 h => ?_
    refine awl_ext hτ rfl rfl rfl (ext172 hg6) ?_
    refine awl_val hτ rfl rfl rfl ?_
    refine awl_val hτ rfl rfl rfl ?_
    refine awl_nil ?_
    refine aw_weak (weak_ofP [] (l := [(2, .d (.fl .f32 (canon .f32 (IntKind.wrap .u32 (n_)).toNat))), (3, .d (.bool true))]) (objs := []) rfl (by simp) rfl (by repeat' first | exact trivial | refine ⟨?_, ?_⟩) ⟨rfl, trivial, rfl, trivial, trivial⟩) ?_
    refine aw_ret ?_
    have hr := Option.some.inj h
    subst hr
    exact ret_objs (.inr rfl) [] (objs' := []) (new := []) rfl (by simp) (by simp) rfl (by repeat' first | exact trivial | refine ⟨?_, ?_⟩) rfl rfl (by repeat' first | exact trivial | refine ⟨?_, ?_⟩) (fun _ => ⟨by simp [V.flat, V.flatA, V.flatC, D.flat], flat_nil⟩) ⟨rfl, rfl, rfl⟩
theorem impl_FromBits_ok (n : Nat) (n_ : Int) {r : Nat × Bool} (h : m_impl_FromBits n n_ = some r) : ACall prog false 174 [.d (.int .i64 n_)] [] (fun v o new => v = .tup [.d (.fl .f32 r.1), .d (.bool r.2)] ∧ o = [] ∧ new = []) := impl_FromBits_ok_fr0 false n n_ h
theorem impl_FromBits_ok_fr (n : Nat) (n_ : Int) {r : Nat × Bool} (h : m_impl_FromBits n n_ = some r) : ACall prog true 174 [.d (.int .i64 n_)] [] (fun v o new => v = .tup [.d (.fl .f32 r.1), .d (.bool r.2)] ∧ o = [] ∧ new = []) := impl_FromBits_ok_fr0 true n n_ h

def m_impl_reader_float (n : Nat) (r_ : SReader) : Option (Nat × SReader) :=
  (m_impl_reader_number n r_ (4 : Int)).bind fun x3 =>
  (m_impl_FromBits n x3.1).bind fun x4 =>
  some (x4.1, x3.2)
theorem impl_reader_float_ok_fr0 (fr : Bool) (n : Nat) (r_ : SReader) {r : Nat × SReader} (h : m_impl_reader_float n r_ = some r) : ACall prog fr 155 [.ptr 0 0] [.box [.d (.str (bstr r_.s)), .d (.int .i64 r_.at_), .d (.bool r_.short)]] (fun v o new => v = .d (.fl .f32 r.1) ∧ o = [.box [.d (.str (bstr r.2.s)), .d (.int .i64 r.2.at_), .d (.bool r.2.short)]] ∧ new = []) := by
  refine acall_of_aw hτ func155 rfl (by simp) (by simp) ?_
  unfold m_impl_reader_float at h
  refine aw_seq ?_
  refine aw_region ?_
  refine awl_val hτ rfl rfl rfl ?_
  refine awl_nil ?_
  refine aw_seq ?_
  refine aw_region ?_
  refine awl_val hτ rfl rfl rfl ?_
  refine bnd_elim h fun x3 hx3 h => ?_
  refine awl_callP hτ false [0] rfl rfl rfl (enterOk func80 rfl rfl) rfl rfl (by simp) ⟨trivial, trivial, trivial⟩ (by repeat' first | exact trivial | refine ⟨?_, ?_⟩) (impl_reader_number_ok n r_ (4 : Int) hx3) ?_
  rintro r0 o0 n0 ⟨rfl, rfl, rfl⟩ -
  refine bnd_elim h fun x4 hx4 h => ?_
  refine awl_callP hτ false [] rfl rfl rfl (enterOk func174 rfl rfl) rfl rfl (by simp) ⟨trivial, trivial⟩ (by repeat' first | exact trivial | refine ⟨?_, ?_⟩) (impl_FromBits_ok n x3.1 hx4) ?_
  rintro r0 o0 n0 ⟨rfl, rfl, rfl⟩ -
  refine awl_val hτ rfl rfl rfl ?_
  refine awl_val hτ rfl rfl rfl ?_
  refine awl_val hτ rfl rfl rfl ?_
  refine awl_val hτ rfl rfl rfl ?_
  refine awl_val hτ rfl rfl rfl ?_
  refine awl_nil ?_
  refine aw_seq ?_
  refine aw_weak (weak_ofP [0] (l := [(3, .d (.fl .f32 x4.1))]) (objs := [.box [.d (.str (bstr x3.2.s)), .d (.int .i64 x3.2.at_), .d (.bool x3.2.short)]]) rfl (by simp) rfl (by repeat' first | exact trivial | refine ⟨?_, ?_⟩) ⟨rfl, trivial, trivial⟩) ?_
  refine aw_region ?_
  refine awl_val hτ rfl rfl rfl ?_
  refine awl_val hτ rfl rfl rfl ?_
  refine awl_nil ?_
  refine aw_weak (weak_ofP [0] (l := [(2, .d (.fl .f32 x4.1))]) (objs := [.box [.d (.str (bstr x3.2.s)), .d (.int .i64 x3.2.at_), .d (.bool x3.2.short)]]) rfl (by simp) rfl (by repeat' first | exact trivial | refine ⟨?_, ?_⟩) ⟨rfl, trivial, trivial⟩) ?_
  refine aw_ret ?_
  have hr := Option.some.inj h
  subst hr
  exact ret_objs (.inr rfl) [] (objs' := [.box [.d (.str (bstr x3.2.s)), .d (.int .i64 x3.2.at_), .d (.bool x3.2.short)]]) (new := []) rfl (by simp) (by simp) rfl (by repeat' first | exact trivial | refine ⟨?_, ?_⟩) rfl rfl (by repeat' first | exact trivial | refine ⟨?_, ?_⟩) (fun _ => ⟨by simp [V.flat, V.flatA, V.flatC, D.flat], (flat_cons (by simp [AObj.flat, V.flatC, D.flat]) flat_nil)⟩) ⟨rfl, rfl, rfl⟩
theorem impl_reader_float_ok (n : Nat) (r_ : SReader) {r : Nat × SReader} (h : m_impl_reader_float n r_ = some r) : ACall prog false 155 [.ptr 0 0] [.box [.d (.str (bstr r_.s)), .d (.int .i64 r_.at_), .d (.bool r_.short)]] (fun v o new => v = .d (.fl .f32 r.1) ∧ o = [.box [.d (.str (bstr r.2.s)), .d (.int .i64 r.2.at_), .d (.bool r.2.short)]] ∧ new = []) := impl_reader_float_ok_fr0 false n r_ h
theorem impl_reader_float_ok_fr (n : Nat) (r_ : SReader) {r : Nat × SReader} (h : m_impl_reader_float n r_ = some r) : ACall prog true 155 [.ptr 0 0] [.box [.d (.str (bstr r_.s)), .d (.int .i64 r_.at_), .d (.bool r_.short)]] (fun v o new => v = .d (.fl .f32 r.1) ∧ o = [.box [.d (.str (bstr r.2.s)), .d (.int .i64 r.2.at_), .d (.bool r.2.short)]] ∧ new = []) := impl_reader_float_ok_fr0 true n r_ h

def m_impl_reader_pair (n : Nat) (r_ : SReader) : Option (Cx × SReader) :=
  (m_impl_reader_float n r_).bind fun x3 =>
  (m_impl_reader_float n x3.2).bind fun x4 =>
  some ((Cx.mk x3.1 x4.1), x4.2)
theorem impl_reader_pair_ok_fr0 (fr : Bool) (n : Nat) (r_ : SReader) {r : Cx × SReader} (h : m_impl_reader_pair n r_ = some r) : ACall prog fr 122 [.ptr 0 0] [.box [.d (.str (bstr r_.s)), .d (.int .i64 r_.at_), .d (.bool r_.short)]] (fun v o new => v = .d (.cx .f32 r.1.re r.1.im) ∧ o = [.box [.d (.str (bstr r.2.s)), .d (.int .i64 r.2.at_), .d (.bool r.2.short)]] ∧ new = []) := by
  refine acall_of_aw hτ func122 rfl (by simp) (by simp) ?_
  unfold m_impl_reader_pair at h
  refine aw_seq ?_
  refine aw_region ?_
  refine awl_val hτ rfl rfl rfl ?_
  refine awl_nil ?_
  refine aw_seq ?_
  refine aw_region ?_
  refine awl_val hτ rfl rfl rfl ?_
  refine bnd_elim h fun x3 hx3 h => ?_
  refine awl_callP hτ false [0] rfl rfl rfl (enterOk func155 rfl rfl) rfl rfl (by simp) ⟨trivial, trivial⟩ (by repeat' first | exact trivial | refine ⟨?_, ?_⟩) (impl_reader_float_ok n r_ hx3) ?_
  rintro r0 o0 n0 ⟨rfl, rfl, rfl⟩ -
  refine awl_val hτ rfl rfl rfl ?_
  refine awl_nil ?_
  refine aw_seq ?_
  refine aw_region ?_
  refine awl_val hτ rfl rfl rfl ?_
  refine awl_val hτ rfl rfl rfl ?_
  refine bnd_elim h fun x4 hx4 h => ?_
  refine awl_callP hτ false [0] rfl rfl rfl (enterOk func155 rfl rfl) rfl rfl (by simp) ⟨trivial, trivial⟩ (by repeat' first | exact trivial | refine ⟨?_, ?_⟩) (impl_reader_float_ok n x3.2 hx4) ?_
  rintro r0 o0 n0 ⟨rfl, rfl, rfl⟩ -
  refine awl_val hτ rfl rfl rfl ?_
  refine awl_val hτ rfl rfl rfl ?_
  refine awl_nil ?_
  refine aw_weak (weak_ofP [0] (l := [(2, .d (.cx .f32 x3.1 x4.1))]) (objs := [.box [.d (.str (bstr x4.2.s)), .d (.int .i64 x4.2.at_), .d (.bool x4.2.short)]]) rfl (by simp) rfl (by repeat' first | exact trivial | refine ⟨?_, ?_⟩) ⟨rfl, trivial, trivial⟩) ?_
  refine aw_ret ?_
  have hr := Option.some.inj h
  subst hr
  exact ret_objs (.inr rfl) [] (objs' := [.box [.d (.str (bstr x4.2.s)), .d (.int .i64 x4.2.at_), .d (.bool x4.2.short)]]) (new := []) rfl (by simp) (by simp) rfl (by repeat' first | exact trivial | refine ⟨?_, ?_⟩) rfl rfl (by repeat' first | exact trivial | refine ⟨?_, ?_⟩) (fun _ => ⟨by simp [V.flat, V.flatA, V.flatC, D.flat], (flat_cons (by simp [AObj.flat, V.flatC, D.flat]) flat_nil)⟩) ⟨rfl, rfl, rfl⟩
theorem impl_reader_pair_ok (n : Nat) (r_ : SReader) {r : Cx × SReader} (h : m_impl_reader_pair n r_ = some r) : ACall prog false 122 [.ptr 0 0] [.box [.d (.str (bstr r_.s)), .d (.int .i64 r_.at_), .d (.bool r_.short)]] (fun v o new => v = .d (.cx .f32 r.1.re r.1.im) ∧ o = [.box [.d (.str (bstr r.2.s)), .d (.int .i64 r.2.at_), .d (.bool r.2.short)]] ∧ new = []) := impl_reader_pair_ok_fr0 false n r_ h
theorem impl_reader_pair_ok_fr (n : Nat) (r_ : SReader) {r : Cx × SReader} (h : m_impl_reader_pair n r_ = some r) : ACall prog true 122 [.ptr 0 0] [.box [.d (.str (bstr r_.s)), .d (.int .i64 r_.at_), .d (.bool r_.short)]] (fun v o new => v = .d (.cx .f32 r.1.re r.1.im) ∧ o = [.box [.d (.str (bstr r.2.s)), .d (.int .i64 r.2.at_), .d (.bool r.2.short)]] ∧ new = []) := impl_reader_pair_ok_fr0 true n r_ h

def m_impl_reader_phases (n : Nat) (r_ : SReader) : Option (SPhases × SReader) :=
  (m_impl_reader_pair n r_).bind fun x4 =>
  (m_impl_reader_pair n x4.2).bind fun x5 =>
  (m_impl_reader_pair n x5.2).bind fun x6 =>
  some ((SPhases.mk x4.1 x5.1 x6.1), x6.2)
theorem impl_reader_phases_ok_fr0 (fr : Bool) (n : Nat) (r_ : SReader) {r : SPhases × SReader} (h : m_impl_reader_phases n r_ = some r) : ACall prog fr 79 [.ptr 0 0] [.box [.d (.str (bstr r_.s)), .d (.int .i64 r_.at_), .d (.bool r_.short)]] (fun v o new => v = .agg [.d (.cx .f32 r.1.A.re r.1.A.im), .d (.cx .f32 r.1.B.re r.1.B.im), .d (.cx .f32 r.1.C.re r.1.C.im)] ∧ o = [.box [.d (.str (bstr r.2.s)), .d (.int .i64 r.2.at_), .d (.bool r.2.short)]] ∧ new = []) := by
  refine acall_of_aw hτ func79 rfl (by simp) (by simp) ?_
  unfold m_impl_reader_phases at h
  refine aw_seq ?_
  refine aw_region ?_
  refine awl_valH hτ rfl rfl rfl ?_
  refine awl_nil ?_
  refine aw_seq ?_
  refine aw_region ?_
  refine awl_val hτ rfl rfl rfl ?_
  refine bnd_elim h fun x4 hx4 h => ?_
  refine awl_callP hτ false [0] rfl rfl rfl (enterOk func122 rfl rfl) rfl rfl (by simp) ⟨trivial, trivial⟩ (by repeat' first | exact trivial | refine ⟨?_, ?_⟩) (impl_reader_pair_ok n r_ hx4) ?_
  rintro r0 o0 n0 ⟨rfl, rfl, rfl⟩ -
  refine awl_val hτ rfl rfl rfl ?_
  refine awl_nil ?_
  refine aw_seq ?_
  refine aw_region ?_
  refine awl_val hτ rfl rfl rfl ?_
  refine bnd_elim h fun x5 hx5 h => ?_
  refine awl_callP hτ false [0] rfl rfl rfl (enterOk func122 rfl rfl) rfl rfl (by simp) ⟨trivial, trivial⟩ (by repeat' first | exact trivial | refine ⟨?_, ?_⟩) (impl_reader_pair_ok n x4.2 hx5) ?_
  rintro r0 o0 n0 ⟨rfl, rfl, rfl⟩ -
  refine awl_val hτ rfl rfl rfl ?_
  refine awl_nil ?_
  refine aw_seq ?_
  refine aw_weak (weak_ofP [0, 1] (l := [(0, .ptr 0 0), (2, .ptr 1 0), (3, .d (.cx .f32 x4.1.re x4.1.im)), (4, .d (.cx .f32 x5.1.re x5.1.im))]) (objs := [.box [.d (.str (bstr x5.2.s)), .d (.int .i64 x5.2.at_), .d (.bool x5.2.short)], .box [.d (.cx .f32 (0 : Nat) (0 : Nat)), .d (.cx .f32 (0 : Nat) (0 : Nat)), .d (.cx .f32 (0 : Nat) (0 : Nat))]]) rfl (by simp) rfl (by repeat' first | exact trivial | refine ⟨?_, ?_⟩) ⟨rfl, trivial, rfl, trivial, rfl, trivial, rfl, trivial, trivial⟩) ?_
  refine aw_region ?_
  refine awl_val hτ rfl rfl rfl ?_
  refine awl_val hτ rfl rfl rfl ?_
  refine awl_val hτ rfl rfl rfl ?_
  refine bnd_elim h fun x6 hx6 h => ?_
  refine awl_callP hτ false [0] rfl rfl rfl (enterOk func122 rfl rfl) rfl rfl (by simp) ⟨trivial, trivial⟩ (by repeat' first | exact trivial | refine ⟨?_, ?_⟩) (impl_reader_pair_ok n x5.2 hx6) ?_
  rintro r0 o0 n0 ⟨rfl, rfl, rfl⟩ -
  refine awl_val hτ rfl rfl rfl ?_
  refine awl_valH hτ rfl rfl rfl ?_
  refine awl_nil ?_
  refine aw_weak (weak_ofP [0, 1] (l := [(2, .ptr 1 0)]) (objs := [.box [.d (.str (bstr x6.2.s)), .d (.int .i64 x6.2.at_), .d (.bool x6.2.short)], .box [.d (.cx .f32 x4.1.re x4.1.im), .d (.cx .f32 x5.1.re x5.1.im), .d (.cx .f32 x6.1.re x6.1.im)]]) rfl (by simp) rfl (by repeat' first | exact trivial | refine ⟨?_, ?_⟩) ⟨rfl, trivial, trivial⟩) ?_
  refine aw_ret ?_
  have hr := Option.some.inj h
  subst hr
  exact ret_objs (.inr rfl) [] (objs' := [.box [.d (.str (bstr x6.2.s)), .d (.int .i64 x6.2.at_), .d (.bool x6.2.short)]]) (new := []) rfl (by simp) (by simp) rfl (by repeat' first | exact trivial | refine ⟨?_, ?_⟩) rfl rfl (by repeat' first | exact trivial | refine ⟨?_, ?_⟩) (fun _ => ⟨by simp [V.flat, V.flatA, V.flatC, D.flat], (flat_cons (by simp [AObj.flat, V.flatC, D.flat]) flat_nil)⟩) ⟨rfl, rfl, rfl⟩
theorem impl_reader_phases_ok (n : Nat) (r_ : SReader) {r : SPhases × SReader} (h : m_impl_reader_phases n r_ = some r) : ACall prog false 79 [.ptr 0 0] [.box [.d (.str (bstr r_.s)), .d (.int .i64 r_.at_), .d (.bool r_.short)]] (fun v o new => v = .agg [.d (.cx .f32 r.1.A.re r.1.A.im), .d (.cx .f32 r.1.B.re r.1.B.im), .d (.cx .f32 r.1.C.re r.1.C.im)] ∧ o = [.box [.d (.str (bstr r.2.s)), .d (.int .i64 r.2.at_), .d (.bool r.2.short)]] ∧ new = []) := impl_reader_phases_ok_fr0 false n r_ h
theorem impl_reader_phases_ok_fr (n : Nat) (r_ : SReader) {r : SPhases × SReader} (h : m_impl_reader_phases n r_ = some r) : ACall prog true 79 [.ptr 0 0] [.box [.d (.str (bstr r_.s)), .d (.int .i64 r_.at_), .d (.bool r_.short)]] (fun v o new => v = .agg [.d (.cx .f32 r.1.A.re r.1.A.im), .d (.cx .f32 r.1.B.re r.1.B.im), .d (.cx .f32 r.1.C.re r.1.C.im)] ∧ o = [.box [.d (.str (bstr r.2.s)), .d (.int .i64 r.2.at_), .d (.bool r.2.short)]] ∧ new = []) := impl_reader_phases_ok_fr0 true n r_ h

def m_impl_reader_bus (n : Nat) (r_ : SReader) : Option (SBus × SReader) :=
  (m_impl_reader_number n r_ (1 : Int)).bind fun x7 =>
  (m_impl_reader_pair n x7.2).bind fun x8 =>
  (m_impl_reader_pair n x8.2).bind fun x9 =>
  (m_impl_reader_number n x9.2 (1 : Int)).bind fun x10 =>
  (m_impl_reader_phases n x10.2).bind fun x11 =>
  (m_impl_reader_number n x11.2 (4 : Int)).bind fun x12 =>
  some ((SBus.mk (w64 (x7.1 - (1 : Int))) x8.1 x9.1 x10.1 x11.1 x12.1), x12.2)
theorem impl_reader_bus_ok_fr0 (fr : Bool) (n : Nat) (r_ : SReader) {r : SBus × SReader} (h : m_impl_reader_bus n r_ = some r) : ACall prog fr 81 [.ptr 0 0] [.box [.d (.str (bstr r_.s)), .d (.int .i64 r_.at_), .d (.bool r_.short)]] (fun v o new => v = .agg [.d (.int .i64 r.1.Parent), .d (.cx .f32 r.1.Own.re r.1.Own.im), .d (.cx .f32 r.1.Shared.re r.1.Shared.im), .d (.int .i64 r.1.Kind), .d (.cx .f32 r.1.Load.A.re r.1.Load.A.im), .d (.cx .f32 r.1.Load.B.re r.1.Load.B.im), .d (.cx .f32 r.1.Load.C.re r.1.Load.C.im), .d (.int .i64 r.1.Customers)] ∧ o = [.box [.d (.str (bstr r.2.s)), .d (.int .i64 r.2.at_), .d (.bool r.2.short)]] ∧ new = []) := by
  refine acall_of_aw hτ func81 rfl (by simp) (by simp) ?_
  unfold m_impl_reader_bus at h
  refine aw_seq ?_
  refine aw_region ?_
  refine awl_valH hτ rfl rfl rfl ?_
  refine awl_nil ?_
  refine aw_seq ?_
  refine aw_region ?_
  refine awl_val hτ rfl rfl rfl ?_
  refine bnd_elim h fun x7 hx7 h => ?_
  refine awl_callP hτ false [0] rfl rfl rfl (enterOk func80 rfl rfl) rfl rfl (by simp) ⟨trivial, trivial, trivial⟩ (by repeat' first | exact trivial | refine ⟨?_, ?_⟩) (impl_reader_number_ok n r_ (1 : Int) hx7) ?_
  rintro r0 o0 n0 ⟨rfl, rfl, rfl⟩ -
  refine awl_val hτ rfl rfl rfl ?_
  refine awl_val hτ rfl rfl rfl ?_
  refine awl_valH hτ rfl rfl rfl ?_
  refine awl_valH hτ rfl rfl rfl ?_
  refine awl_nil ?_
  refine aw_seq ?_
  refine aw_weak (weak_ofP [0, 1, 2] (l := [(0, .ptr 0 0), (2, .ptr 1 0), (3, .ptr 2 0)]) (objs := [.box [.d (.str (bstr x7.2.s)), .d (.int .i64 x7.2.at_), .d (.bool x7.2.short)], .box [.d (.int .i64 (0 : Int)), .d (.cx .f32 (0 : Nat) (0 : Nat)), .d (.cx .f32 (0 : Nat) (0 : Nat)), .d (.int .i64 (0 : Int)), .d (.cx .f32 (0 : Nat) (0 : Nat)), .d (.cx .f32 (0 : Nat) (0 : Nat)), .d (.cx .f32 (0 : Nat) (0 : Nat)), .d (.int .i64 (0 : Int))], .box [.d (.int .i64 (w64 (x7.1 - (1 : Int)))), .d (.cx .f32 (0 : Nat) (0 : Nat)), .d (.cx .f32 (0 : Nat) (0 : Nat)), .d (.int .i64 (0 : Int)), .d (.cx .f32 (0 : Nat) (0 : Nat)), .d (.cx .f32 (0 : Nat) (0 : Nat)), .d (.cx .f32 (0 : Nat) (0 : Nat)), .d (.int .i64 (0 : Int))]]) rfl (by simp) rfl (by repeat' first | exact trivial | refine ⟨?_, ?_⟩) ⟨rfl, trivial, rfl, trivial, rfl, trivial, trivial⟩) ?_
  refine aw_region ?_
  refine awl_val hτ rfl rfl rfl ?_
  refine bnd_elim h fun x8 hx8 h => ?_
  refine awl_callP hτ false [0] rfl rfl rfl (enterOk func122 rfl rfl) rfl rfl (by simp) ⟨trivial, trivial⟩ (by repeat' first | exact trivial | refine ⟨?_, ?_⟩) (impl_reader_pair_ok n x7.2 hx8) ?_
  rintro r0 o0 n0 ⟨rfl, rfl, rfl⟩ -
  refine awl_val hτ rfl rfl rfl ?_
  refine bnd_elim h fun x9 hx9 h => ?_
  refine awl_callP hτ false [0] rfl rfl rfl (enterOk func122 rfl rfl) rfl rfl (by simp) ⟨trivial, trivial⟩ (by repeat' first | exact trivial | refine ⟨?_, ?_⟩) (impl_reader_pair_ok n x8.2 hx9) ?_
  rintro r0 o0 n0 ⟨rfl, rfl, rfl⟩ -
  refine awl_val hτ rfl rfl rfl ?_
  refine awl_valH hτ rfl rfl rfl ?_
  refine awl_val hτ rfl rfl rfl ?_
  refine awl_valH hτ rfl rfl rfl ?_
  refine awl_nil ?_
  refine aw_seq ?_
  refine aw_weak (weak_ofP [0, 1, 2] (l := [(0, .ptr 0 0), (2, .ptr 1 0), (3, .ptr 2 0)]) (objs := [.box [.d (.str (bstr x9.2.s)), .d (.int .i64 x9.2.at_), .d (.bool x9.2.short)], .box [.d (.int .i64 (0 : Int)), .d (.cx .f32 (0 : Nat) (0 : Nat)), .d (.cx .f32 (0 : Nat) (0 : Nat)), .d (.int .i64 (0 : Int)), .d (.cx .f32 (0 : Nat) (0 : Nat)), .d (.cx .f32 (0 : Nat) (0 : Nat)), .d (.cx .f32 (0 : Nat) (0 : Nat)), .d (.int .i64 (0 : Int))], .box [.d (.int .i64 (w64 (x7.1 - (1 : Int)))), .d (.cx .f32 x8.1.re x8.1.im), .d (.cx .f32 x9.1.re x9.1.im), .d (.int .i64 (0 : Int)), .d (.cx .f32 (0 : Nat) (0 : Nat)), .d (.cx .f32 (0 : Nat) (0 : Nat)), .d (.cx .f32 (0 : Nat) (0 : Nat)), .d (.int .i64 (0 : Int))]]) rfl (by simp) rfl (by repeat' first | exact trivial | refine ⟨?_, ?_⟩) ⟨rfl, trivial, rfl, trivial, rfl, trivial, trivial⟩) ?_
  refine aw_region ?_
  refine awl_val hτ rfl rfl rfl ?_
  refine bnd_elim h fun x10 hx10 h => ?_
  refine awl_callP hτ false [0] rfl rfl rfl (enterOk func80 rfl rfl) rfl rfl (by simp) ⟨trivial, trivial, trivial⟩ (by repeat' first | exact trivial | refine ⟨?_, ?_⟩) (impl_reader_number_ok n x9.2 (1 : Int) hx10) ?_
  rintro r0 o0 n0 ⟨rfl, rfl, rfl⟩ -
  refine awl_val hτ rfl rfl rfl ?_
  refine awl_valH hτ rfl rfl rfl ?_
  refine awl_nil ?_
  refine aw_seq ?_
  refine aw_region ?_
  refine awl_val hτ rfl rfl rfl ?_
  refine bnd_elim h fun x11 hx11 h => ?_
  refine awl_callP hτ false [0] rfl rfl rfl (enterOk func79 rfl rfl) rfl rfl (by simp) ⟨trivial, trivial⟩ (by repeat' first | exact trivial | refine ⟨?_, ?_⟩) (impl_reader_phases_ok n x10.2 hx11) ?_
  rintro r0 o0 n0 ⟨rfl, rfl, rfl⟩ -
  refine awl_val hτ rfl rfl rfl ?_
  refine awl_valH hτ rfl rfl rfl ?_
  refine awl_nil ?_
  refine aw_seq ?_
  refine aw_weak (weak_ofP [0, 1, 2] (l := [(0, .ptr 0 0), (2, .ptr 1 0), (3, .ptr 2 0)]) (objs := [.box [.d (.str (bstr x11.2.s)), .d (.int .i64 x11.2.at_), .d (.bool x11.2.short)], .box [.d (.int .i64 (0 : Int)), .d (.cx .f32 (0 : Nat) (0 : Nat)), .d (.cx .f32 (0 : Nat) (0 : Nat)), .d (.int .i64 (0 : Int)), .d (.cx .f32 (0 : Nat) (0 : Nat)), .d (.cx .f32 (0 : Nat) (0 : Nat)), .d (.cx .f32 (0 : Nat) (0 : Nat)), .d (.int .i64 (0 : Int))], .box [.d (.int .i64 (w64 (x7.1 - (1 : Int)))), .d (.cx .f32 x8.1.re x8.1.im), .d (.cx .f32 x9.1.re x9.1.im), .d (.int .i64 x10.1), .d (.cx .f32 x11.1.A.re x11.1.A.im), .d (.cx .f32 x11.1.B.re x11.1.B.im), .d (.cx .f32 x11.1.C.re x11.1.C.im), .d (.int .i64 (0 : Int))]]) rfl (by simp) rfl (by repeat' first | exact trivial | refine ⟨?_, ?_⟩) ⟨rfl, trivial, rfl, trivial, rfl, trivial, trivial⟩) ?_
  refine aw_region ?_
  refine awl_val hτ rfl rfl rfl ?_
  refine bnd_elim h fun x12 hx12 h => ?_
  refine awl_callP hτ false [0] rfl rfl rfl (enterOk func80 rfl rfl) rfl rfl (by simp) ⟨trivial, trivial, trivial⟩ (by repeat' first | exact trivial | refine ⟨?_, ?_⟩) (impl_reader_number_ok n x11.2 (4 : Int) hx12) ?_
  rintro r0 o0 n0 ⟨rfl, rfl, rfl⟩ -
  refine awl_val hτ rfl rfl rfl ?_
  refine awl_valH hτ rfl rfl rfl ?_
  refine awl_nil ?_
  refine aw_seq ?_
  refine aw_region ?_
  refine awl_val hτ rfl rfl rfl ?_
  refine awl_valH hτ rfl rfl rfl ?_
  refine awl_nil ?_
  refine aw_weak (weak_ofP [0, 1] (l := [(2, .ptr 1 0)]) (objs := [.box [.d (.str (bstr x12.2.s)), .d (.int .i64 x12.2.at_), .d (.bool x12.2.short)], .box [.d (.int .i64 (w64 (x7.1 - (1 : Int)))), .d (.cx .f32 x8.1.re x8.1.im), .d (.cx .f32 x9.1.re x9.1.im), .d (.int .i64 x10.1), .d (.cx .f32 x11.1.A.re x11.1.A.im), .d (.cx .f32 x11.1.B.re x11.1.B.im), .d (.cx .f32 x11.1.C.re x11.1.C.im), .d (.int .i64 x12.1)]]) rfl (by simp) rfl (by repeat' first | exact trivial | refine ⟨?_, ?_⟩) ⟨rfl, trivial, trivial⟩) ?_
  refine aw_ret ?_
  have hr := Option.some.inj h
  subst hr
  exact ret_objs (.inr rfl) [] (objs' := [.box [.d (.str (bstr x12.2.s)), .d (.int .i64 x12.2.at_), .d (.bool x12.2.short)]]) (new := []) rfl (by simp) (by simp) rfl (by repeat' first | exact trivial | refine ⟨?_, ?_⟩) rfl rfl (by repeat' first | exact trivial | refine ⟨?_, ?_⟩) (fun _ => ⟨by simp [V.flat, V.flatA, V.flatC, D.flat], (flat_cons (by simp [AObj.flat, V.flatC, D.flat]) flat_nil)⟩) ⟨rfl, rfl, rfl⟩
theorem impl_reader_bus_ok (n : Nat) (r_ : SReader) {r : SBus × SReader} (h : m_impl_reader_bus n r_ = some r) : ACall prog false 81 [.ptr 0 0] [.box [.d (.str (bstr r_.s)), .d (.int .i64 r_.at_), .d (.bool r_.short)]] (fun v o new => v = .agg [.d (.int .i64 r.1.Parent), .d (.cx .f32 r.1.Own.re r.1.Own.im), .d (.cx .f32 r.1.Shared.re r.1.Shared.im), .d (.int .i64 r.1.Kind), .d (.cx .f32 r.1.Load.A.re r.1.Load.A.im), .d (.cx .f32 r.1.Load.B.re r.1.Load.B.im), .d (.cx .f32 r.1.Load.C.re r.1.Load.C.im), .d (.int .i64 r.1.Customers)] ∧ o = [.box [.d (.str (bstr r.2.s)), .d (.int .i64 r.2.at_), .d (.bool r.2.short)]] ∧ new = []) := impl_reader_bus_ok_fr0 false n r_ h
theorem impl_reader_bus_ok_fr (n : Nat) (r_ : SReader) {r : SBus × SReader} (h : m_impl_reader_bus n r_ = some r) : ACall prog true 81 [.ptr 0 0] [.box [.d (.str (bstr r_.s)), .d (.int .i64 r_.at_), .d (.bool r_.short)]] (fun v o new => v = .agg [.d (.int .i64 r.1.Parent), .d (.cx .f32 r.1.Own.re r.1.Own.im), .d (.cx .f32 r.1.Shared.re r.1.Shared.im), .d (.int .i64 r.1.Kind), .d (.cx .f32 r.1.Load.A.re r.1.Load.A.im), .d (.cx .f32 r.1.Load.B.re r.1.Load.B.im), .d (.cx .f32 r.1.Load.C.re r.1.Load.C.im), .d (.int .i64 r.1.Customers)] ∧ o = [.box [.d (.str (bstr r.2.s)), .d (.int .i64 r.2.at_), .d (.bool r.2.short)]] ∧ new = []) := impl_reader_bus_ok_fr0 true n r_ h

def m_impl_reader_tie (n : Nat) (r_ : SReader) : Option (STie × SReader) :=
  (m_impl_reader_number n r_ (1 : Int)).bind fun x6 =>
  (m_impl_reader_number n x6.2 (1 : Int)).bind fun x7 =>
  (m_impl_reader_pair n x7.2).bind fun x8 =>
  (m_impl_reader_pair n x8.2).bind fun x9 =>
  (m_impl_reader_number n x9.2 (4 : Int)).bind fun x10 =>
  some ((STie.mk x6.1 x7.1 x8.1 x9.1 x10.1), x10.2)
theorem impl_reader_tie_ok_fr0 (fr : Bool) (n : Nat) (r_ : SReader) {r : STie × SReader} (h : m_impl_reader_tie n r_ = some r) : ACall prog fr 82 [.ptr 0 0] [.box [.d (.str (bstr r_.s)), .d (.int .i64 r_.at_), .d (.bool r_.short)]] (fun v o new => v = .agg [.d (.int .i64 r.1.A), .d (.int .i64 r.1.B), .d (.cx .f32 r.1.Own.re r.1.Own.im), .d (.cx .f32 r.1.Shared.re r.1.Shared.im), .d (.int .i64 r.1.Most)] ∧ o = [.box [.d (.str (bstr r.2.s)), .d (.int .i64 r.2.at_), .d (.bool r.2.short)]] ∧ new = []) := by
  refine acall_of_aw hτ func82 rfl (by simp) (by simp) ?_
  unfold m_impl_reader_tie at h
  refine aw_seq ?_
  refine aw_region ?_
  refine awl_valH hτ rfl rfl rfl ?_
  refine awl_nil ?_
  refine aw_seq ?_
  refine aw_region ?_
  refine awl_val hτ rfl rfl rfl ?_
  refine bnd_elim h fun x6 hx6 h => ?_
  refine awl_callP hτ false [0] rfl rfl rfl (enterOk func80 rfl rfl) rfl rfl (by simp) ⟨trivial, trivial, trivial⟩ (by repeat' first | exact trivial | refine ⟨?_, ?_⟩) (impl_reader_number_ok n r_ (1 : Int) hx6) ?_
  rintro r0 o0 n0 ⟨rfl, rfl, rfl⟩ -
  refine awl_val hτ rfl rfl rfl ?_
  refine awl_valH hτ rfl rfl rfl ?_
  refine awl_valH hτ rfl rfl rfl ?_
  refine awl_nil ?_
  refine aw_seq ?_
  refine aw_weak (weak_ofP [0, 1, 2] (l := [(0, .ptr 0 0), (2, .ptr 1 0), (3, .ptr 2 0)]) (objs := [.box [.d (.str (bstr x6.2.s)), .d (.int .i64 x6.2.at_), .d (.bool x6.2.short)], .box [.d (.int .i64 (0 : Int)), .d (.int .i64 (0 : Int)), .d (.cx .f32 (0 : Nat) (0 : Nat)), .d (.cx .f32 (0 : Nat) (0 : Nat)), .d (.int .i64 (0 : Int))], .box [.d (.int .i64 x6.1), .d (.int .i64 (0 : Int)), .d (.cx .f32 (0 : Nat) (0 : Nat)), .d (.cx .f32 (0 : Nat) (0 : Nat)), .d (.int .i64 (0 : Int))]]) rfl (by simp) rfl (by repeat' first | exact trivial | refine ⟨?_, ?_⟩) ⟨rfl, trivial, rfl, trivial, rfl, trivial, trivial⟩) ?_
  refine aw_region ?_
  refine awl_val hτ rfl rfl rfl ?_
  refine bnd_elim h fun x7 hx7 h => ?_
  refine awl_callP hτ false [0] rfl rfl rfl (enterOk func80 rfl rfl) rfl rfl (by simp) ⟨trivial, trivial, trivial⟩ (by repeat' first | exact trivial | refine ⟨?_, ?_⟩) (impl_reader_number_ok n x6.2 (1 : Int) hx7) ?_
  rintro r0 o0 n0 ⟨rfl, rfl, rfl⟩ -
  refine awl_val hτ rfl rfl rfl ?_
  refine awl_valH hτ rfl rfl rfl ?_
  refine awl_nil ?_
  refine aw_seq ?_
  refine aw_region ?_
  refine awl_val hτ rfl rfl rfl ?_
  refine bnd_elim h fun x8 hx8 h => ?_
  refine awl_callP hτ false [0] rfl rfl rfl (enterOk func122 rfl rfl) rfl rfl (by simp) ⟨trivial, trivial⟩ (by repeat' first | exact trivial | refine ⟨?_, ?_⟩) (impl_reader_pair_ok n x7.2 hx8) ?_
  rintro r0 o0 n0 ⟨rfl, rfl, rfl⟩ -
  refine awl_val hτ rfl rfl rfl ?_
  refine bnd_elim h fun x9 hx9 h => ?_
  refine awl_callP hτ false [0] rfl rfl rfl (enterOk func122 rfl rfl) rfl rfl (by simp) ⟨trivial, trivial⟩ (by repeat' first | exact trivial | refine ⟨?_, ?_⟩) (impl_reader_pair_ok n x8.2 hx9) ?_
  rintro r0 o0 n0 ⟨rfl, rfl, rfl⟩ -
  refine awl_val hτ rfl rfl rfl ?_
  refine awl_valH hτ rfl rfl rfl ?_
  refine awl_val hτ rfl rfl rfl ?_
  refine awl_valH hτ rfl rfl rfl ?_
  refine awl_nil ?_
  refine aw_seq ?_
  refine aw_weak (weak_ofP [0, 1, 2] (l := [(0, .ptr 0 0), (2, .ptr 1 0), (3, .ptr 2 0)]) (objs := [.box [.d (.str (bstr x9.2.s)), .d (.int .i64 x9.2.at_), .d (.bool x9.2.short)], .box [.d (.int .i64 (0 : Int)), .d (.int .i64 (0 : Int)), .d (.cx .f32 (0 : Nat) (0 : Nat)), .d (.cx .f32 (0 : Nat) (0 : Nat)), .d (.int .i64 (0 : Int))], .box [.d (.int .i64 x6.1), .d (.int .i64 x7.1), .d (.cx .f32 x8.1.re x8.1.im), .d (.cx .f32 x9.1.re x9.1.im), .d (.int .i64 (0 : Int))]]) rfl (by simp) rfl (by repeat' first | exact trivial | refine ⟨?_, ?_⟩) ⟨rfl, trivial, rfl, trivial, rfl, trivial, trivial⟩) ?_
  refine aw_region ?_
  refine awl_val hτ rfl rfl rfl ?_
  refine bnd_elim h fun x10 hx10 h => ?_
  refine awl_callP hτ false [0] rfl rfl rfl (enterOk func80 rfl rfl) rfl rfl (by simp) ⟨trivial, trivial, trivial⟩ (by repeat' first | exact trivial | refine ⟨?_, ?_⟩) (impl_reader_number_ok n x9.2 (4 : Int) hx10) ?_
  rintro r0 o0 n0 ⟨rfl, rfl, rfl⟩ -
  refine awl_val hτ rfl rfl rfl ?_
  refine awl_valH hτ rfl rfl rfl ?_
  refine awl_nil ?_
  refine aw_seq ?_
  refine aw_region ?_
  refine awl_val hτ rfl rfl rfl ?_
  refine awl_valH hτ rfl rfl rfl ?_
  refine awl_nil ?_
  refine aw_weak (weak_ofP [0, 1] (l := [(2, .ptr 1 0)]) (objs := [.box [.d (.str (bstr x10.2.s)), .d (.int .i64 x10.2.at_), .d (.bool x10.2.short)], .box [.d (.int .i64 x6.1), .d (.int .i64 x7.1), .d (.cx .f32 x8.1.re x8.1.im), .d (.cx .f32 x9.1.re x9.1.im), .d (.int .i64 x10.1)]]) rfl (by simp) rfl (by repeat' first | exact trivial | refine ⟨?_, ?_⟩) ⟨rfl, trivial, trivial⟩) ?_
  refine aw_ret ?_
  have hr := Option.some.inj h
  subst hr
  exact ret_objs (.inr rfl) [] (objs' := [.box [.d (.str (bstr x10.2.s)), .d (.int .i64 x10.2.at_), .d (.bool x10.2.short)]]) (new := []) rfl (by simp) (by simp) rfl (by repeat' first | exact trivial | refine ⟨?_, ?_⟩) rfl rfl (by repeat' first | exact trivial | refine ⟨?_, ?_⟩) (fun _ => ⟨by simp [V.flat, V.flatA, V.flatC, D.flat], (flat_cons (by simp [AObj.flat, V.flatC, D.flat]) flat_nil)⟩) ⟨rfl, rfl, rfl⟩
theorem impl_reader_tie_ok (n : Nat) (r_ : SReader) {r : STie × SReader} (h : m_impl_reader_tie n r_ = some r) : ACall prog false 82 [.ptr 0 0] [.box [.d (.str (bstr r_.s)), .d (.int .i64 r_.at_), .d (.bool r_.short)]] (fun v o new => v = .agg [.d (.int .i64 r.1.A), .d (.int .i64 r.1.B), .d (.cx .f32 r.1.Own.re r.1.Own.im), .d (.cx .f32 r.1.Shared.re r.1.Shared.im), .d (.int .i64 r.1.Most)] ∧ o = [.box [.d (.str (bstr r.2.s)), .d (.int .i64 r.2.at_), .d (.bool r.2.short)]] ∧ new = []) := impl_reader_tie_ok_fr0 false n r_ h
theorem impl_reader_tie_ok_fr (n : Nat) (r_ : SReader) {r : STie × SReader} (h : m_impl_reader_tie n r_ = some r) : ACall prog true 82 [.ptr 0 0] [.box [.d (.str (bstr r_.s)), .d (.int .i64 r_.at_), .d (.bool r_.short)]] (fun v o new => v = .agg [.d (.int .i64 r.1.A), .d (.int .i64 r.1.B), .d (.cx .f32 r.1.Own.re r.1.Own.im), .d (.cx .f32 r.1.Shared.re r.1.Shared.im), .d (.int .i64 r.1.Most)] ∧ o = [.box [.d (.str (bstr r.2.s)), .d (.int .i64 r.2.at_), .d (.bool r.2.short)]] ∧ new = []) := impl_reader_tie_ok_fr0 true n r_ h

def m_impl_kindOk (n : Nat) (kind_ : Int) : Option Bool :=
  (m_impl_in n kind_ (0 : Int) (2 : Int)).bind fun x2 =>
  some x2
theorem impl_kindOk_ok_fr0 (fr : Bool) (n : Nat) (kind_ : Int) {r : Bool} (h : m_impl_kindOk n kind_ = some r) : ACall prog fr 106 [.d (.int .i64 kind_)] [] (fun v o new => v = .d (.bool r) ∧ o = [] ∧ new = []) := by
  refine acall_of_aw hτ func106 rfl (by simp) (by simp) ?_
  unfold m_impl_kindOk at h
  refine aw_seq ?_
  refine aw_region ?_
  refine awl_val hτ rfl rfl rfl ?_
  refine awl_nil ?_
  refine aw_seq ?_
  refine aw_region ?_
  refine awl_val hτ rfl rfl rfl ?_
  refine bnd_elim h fun x2 hx2 h => ?_
  refine awl_callP hτ false [] rfl rfl rfl (enterOk func62 rfl rfl) rfl rfl (by simp) ⟨trivial, trivial, trivial, trivial⟩ (by repeat' first | exact trivial | refine ⟨?_, ?_⟩) (impl_in_ok n kind_ (0 : Int) (2 : Int) hx2) ?_
  rintro r0 o0 n0 ⟨rfl, rfl, rfl⟩ -
  refine awl_val hτ rfl rfl rfl ?_
  refine awl_nil ?_
  refine aw_weak (weak_ofP [] (l := [(2, .d (.bool x2))]) (objs := []) rfl (by simp) rfl (by repeat' first | exact trivial | refine ⟨?_, ?_⟩) ⟨rfl, trivial, trivial⟩) ?_
  refine aw_ret ?_
  have hr := Option.some.inj h
  subst hr
  exact ret_objs (.inr rfl) [] (objs' := []) (new := []) rfl (by simp) (by simp) rfl (by repeat' first | exact trivial | refine ⟨?_, ?_⟩) rfl rfl (by repeat' first | exact trivial | refine ⟨?_, ?_⟩) (fun _ => ⟨by simp [V.flat, V.flatA, V.flatC, D.flat], flat_nil⟩) ⟨rfl, rfl, rfl⟩
theorem impl_kindOk_ok (n : Nat) (kind_ : Int) {r : Bool} (h : m_impl_kindOk n kind_ = some r) : ACall prog false 106 [.d (.int .i64 kind_)] [] (fun v o new => v = .d (.bool r) ∧ o = [] ∧ new = []) := impl_kindOk_ok_fr0 false n kind_ h
theorem impl_kindOk_ok_fr (n : Nat) (kind_ : Int) {r : Bool} (h : m_impl_kindOk n kind_ = some r) : ACall prog true 106 [.d (.int .i64 kind_)] [] (fun v o new => v = .d (.bool r) ∧ o = [] ∧ new = []) := impl_kindOk_ok_fr0 true n kind_ h

def m_impl_ValidFeeder_j1 (n : Nat) (f_ : SFeeder) : Option Bool :=
  (m_impl_in n (f_.Buses.length : Int) (1 : Int) (16 : Int)).bind fun x58 =>
  some x58
def m_impl_ValidFeeder_j3 (n : Nat) (k89 : Int → Option Bool) (v73 : Int) : Option Bool :=
  k89 (w64 (v73 + (1 : Int)))
def m_impl_ValidFeeder_j6 (n : Nat) (k89 : Int → Option Bool) (v73 : Int) (v122 : Bool) : Option Bool :=
  if v122 = true then
    some false
  else
    m_impl_ValidFeeder_j3 n k89 v73
def m_impl_ValidFeeder_j5 (n : Nat) (k89 : Int → Option Bool) (v73 : Int) (x105 : SBus) (v117 : Bool) : Option Bool :=
  if v117 = true then
    some false
  else
    if v73 > (0 : Int) then
      (m_impl_in n x105.Parent (0 : Int) (w64 (v73 - (1 : Int)))).bind fun x126 =>
      m_impl_ValidFeeder_j6 n k89 v73 (!x126)
    else
      m_impl_ValidFeeder_j6 n k89 v73 false
def m_impl_ValidFeeder_j4 (n : Nat) (k89 : Int → Option Bool) (v73 : Int) (x105 : SBus) (v110 : Bool) : Option Bool :=
  if v110 = true then
    some false
  else
    if v73 = (0 : Int) then
      if x105.Parent = (-1 : Int) then
        if (fcmp .eql .f32 x105.Own.re (0 : Nat) && fcmp .eql .f32 x105.Own.im (0 : Nat)) = true then
          m_impl_ValidFeeder_j5 n k89 v73 x105 (!(fcmp .eql .f32 x105.Shared.re (0 : Nat) && fcmp .eql .f32 x105.Shared.im (0 : Nat)))
        else
          m_impl_ValidFeeder_j5 n k89 v73 x105 true
      else
        m_impl_ValidFeeder_j5 n k89 v73 x105 true
    else
      m_impl_ValidFeeder_j5 n k89 v73 x105 false
def m_impl_ValidFeeder_l2 (n : Nat) (f_ : SFeeder) : Nat → Int → Option Bool
  | 0, _ => none
  | m88 + 1, v73 =>
    if v73 < (f_.Buses.length : Int) then
      (getI f_.Buses v73).bind fun x105 =>
      (m_impl_kindOk n x105.Kind).bind fun x132 =>
      if x132 = true then
        (m_impl_in n x105.Customers (0 : Int) (1000000 : Int)).bind fun x134 =>
        m_impl_ValidFeeder_j4 n (m_impl_ValidFeeder_l2 n f_ m88) v73 x105 (!x134)
      else
        m_impl_ValidFeeder_j4 n (m_impl_ValidFeeder_l2 n f_ m88) v73 x105 true
    else
      m_impl_ValidFeeder_j1 n f_
def m_impl_ValidFeeder (n : Nat) (f_ : SFeeder) : Option Bool :=
  m_impl_ValidFeeder_l2 n f_ n (0 : Int)
theorem impl_ValidFeeder_ok_fr0 (fr : Bool) (n : Nat) (f_ : SFeeder) {r : Bool} (h : m_impl_ValidFeeder n f_ = some r) : ACall prog fr 63 [.agg [.d (.cx .f32 f_.Source.A.re f_.Source.A.im), .d (.cx .f32 f_.Source.B.re f_.Source.B.im), .d (.cx .f32 f_.Source.C.re f_.Source.C.im), .d (.sl false (f_.Buses.map eSBus))]] [] (fun v o new => v = .d (.bool r) ∧ o = [] ∧ new = []) := by
  refine acall_of_aw hτ func63 rfl (by simp) (by simp) ?_
  unfold m_impl_ValidFeeder at h
  refine aw_seq ?_
  refine aw_region ?_
  refine awl_valH hτ rfl rfl rfl ?_
  refine awl_val hτ rfl rfl rfl ?_
  refine awl_nil ?_
  refine aw_hk1 (ι := Unit) (fun _ => St.of [(1, .ptr 0 0)] [.box [.d (.cx .f32 f_.Source.A.re f_.Source.A.im), .d (.cx .f32 f_.Source.B.re f_.Source.B.im), .d (.cx .f32 f_.Source.C.re f_.Source.C.im), .d (.sl false (f_.Buses.map eSBus))]] f63.ntmps 0) (fun _ => m_impl_ValidFeeder_j1 n f_ = some r) ?_ (fun hk59 => ?_)
  · rintro ⟨⟩ h
    replace h : m_impl_ValidFeeder_j1 n f_ = some r := h
    unfold m_impl_ValidFeeder_j1 at h
    refine aw_seq ?_
    refine aw_region ?_
    refine awl_val hτ rfl rfl rfl ?_
    refine awl_val hτ rfl rfl rfl ?_
    refine awl_val hτ (v := .d (.int .i64 (f_.Buses.length : Int))) rfl rfl (Eq.trans rfl (or_len (f := eSBus) f_.Buses)) ?_
    refine bnd_elim h fun x58 hx58 h => ?_
    refine awl_callP hτ false [] rfl rfl rfl (enterOk func62 rfl rfl) rfl rfl (by simp) ⟨trivial, trivial, trivial, trivial⟩ (by repeat' first | exact trivial | refine ⟨?_, ?_⟩) (impl_in_ok n (f_.Buses.length : Int) (1 : Int) (16 : Int) hx58) ?_
    rintro r0 o0 n0 ⟨rfl, rfl, rfl⟩ -
    refine awl_val hτ rfl rfl rfl ?_
    refine awl_nil ?_
    refine aw_weak (weak_ofP [] (l := [(2, .d (.bool x58))]) (objs := []) rfl (by simp) rfl (by repeat' first | exact trivial | refine ⟨?_, ?_⟩) ⟨rfl, trivial, trivial⟩) ?_
    refine aw_ret ?_
    have hr := Option.some.inj h
    subst hr
    exact ret_objs (.inr rfl) [] (objs' := []) (new := []) rfl (by simp) (by simp) rfl (by repeat' first | exact trivial | refine ⟨?_, ?_⟩) rfl rfl (by repeat' first | exact trivial | refine ⟨?_, ?_⟩) (fun _ => ⟨by simp [V.flat, V.flatA, V.flatC, D.flat], flat_nil⟩) ⟨rfl, rfl, rfl⟩
  · refine aw_seq ?_
    refine aw_seq ?_
    refine aw_region ?_
    refine awl_val hτ rfl rfl rfl ?_
    refine awl_val hτ rfl rfl rfl ?_
    refine awl_val hτ (v := .d (.int .i64 (f_.Buses.length : Int))) rfl rfl (Eq.trans rfl (or_len (f := eSBus) f_.Buses)) ?_
    refine awl_val hτ rfl rfl rfl ?_
    refine awl_nil ?_
    refine aw_block ?_
    refine aw_loop (ι := Nat × Int) (fun (m88, v73) => St.of [(1, .ptr 0 0), (6, .d (.sl false (f_.Buses.map eSBus))), (7, .d (.int .i64 (f_.Buses.length : Int))), (8, .d (.int .i64 v73))] [.box [.d (.cx .f32 f_.Source.A.re f_.Source.A.im), .d (.cx .f32 f_.Source.B.re f_.Source.B.im), .d (.cx .f32 f_.Source.C.re f_.Source.C.im), .d (.sl false (f_.Buses.map eSBus))]] f63.ntmps 0) (fun (m88, v73) => m_impl_ValidFeeder_l2 n f_ m88 v73 = some r) (fun x => x.1) (n, (0 : Int)) h (weak_ofP [0] (l := [(1, .ptr 0 0), (6, .d (.sl false (f_.Buses.map eSBus))), (7, .d (.int .i64 (f_.Buses.length : Int))), (8, .d (.int .i64 (0 : Int)))]) (objs := [.box [.d (.cx .f32 f_.Source.A.re f_.Source.A.im), .d (.cx .f32 f_.Source.B.re f_.Source.B.im), .d (.cx .f32 f_.Source.C.re f_.Source.C.im), .d (.sl false (f_.Buses.map eSBus))]]) rfl (by simp) rfl (by repeat' first | exact trivial | refine ⟨?_, ?_⟩) ⟨rfl, trivial, rfl, trivial, rfl, trivial, rfl, trivial, trivial⟩) ?_
    rintro ⟨m88, v73⟩ h
    replace h : m_impl_ValidFeeder_l2 n f_ m88 v73 = some r := h
    rcases m88 with _ | m88
    · rw [m_impl_ValidFeeder_l2] at h; cases h
    rw [m_impl_ValidFeeder_l2] at h
    refine aw_seq ?_
    refine aw_region ?_
    refine awl_val hτ rfl rfl rfl ?_
    refine awl_nil ?_
    refine aw_seq ?_
    refine aw_cond rfl (fun hc90 => ?_) (fun hc90 => ?_)
    · have h := if_t h hc90
      refine aw_skip ?_
      refine aw_hk1 (ι := Unit) (fun _ => St.of [(1, .ptr 0 0), (6, .d (.sl false (f_.Buses.map eSBus))), (7, .d (.int .i64 (f_.Buses.length : Int))), (8, .d (.int .i64 v73))] [.box [.d (.cx .f32 f_.Source.A.re f_.Source.A.im), .d (.cx .f32 f_.Source.B.re f_.Source.B.im), .d (.cx .f32 f_.Source.C.re f_.Source.C.im), .d (.sl false (f_.Buses.map eSBus))]] f63.ntmps 0) (fun _ => m_impl_ValidFeeder_j3 n (m_impl_ValidFeeder_l2 n f_ m88) v73 = some r) ?_ (fun hk104 => ?_)
      · rintro ⟨⟩ h
        replace h : m_impl_ValidFeeder_j3 n (m_impl_ValidFeeder_l2 n f_ m88) v73 = some r := h
        unfold m_impl_ValidFeeder_j3 at h
        refine aw_region ?_
        refine awl_val hτ rfl rfl rfl ?_
        refine awl_val hτ rfl rfl rfl ?_
        refine awl_nil ?_
        exact ⟨(m88, (w64 (v73 + (1 : Int)))), h, Nat.lt_succ_self m88, (weak_ofP [0] (l := [(1, .ptr 0 0), (6, .d (.sl false (f_.Buses.map eSBus))), (7, .d (.int .i64 (f_.Buses.length : Int))), (8, .d (.int .i64 (w64 (v73 + (1 : Int)))))]) (objs := [.box [.d (.cx .f32 f_.Source.A.re f_.Source.A.im), .d (.cx .f32 f_.Source.B.re f_.Source.B.im), .d (.cx .f32 f_.Source.C.re f_.Source.C.im), .d (.sl false (f_.Buses.map eSBus))]]) rfl (by simp) rfl (by repeat' first | exact trivial | refine ⟨?_, ?_⟩) ⟨rfl, trivial, rfl, trivial, rfl, trivial, rfl, trivial, trivial⟩)⟩
      · refine aw_seq ?_
        refine aw_block ?_
        refine aw_seq ?_
        refine aw_region ?_
        refine awl_val hτ rfl rfl rfl ?_
        refine bnd_elim h fun x105 hx105 h => ?_
        refine awl_elem hτ rfl rfl rfl (getI_some hx105).1 (map_getI hx105) rfl ?_
        refine awl_val hτ rfl rfl rfl ?_
        refine awl_valH hτ rfl rfl rfl ?_
        refine awl_val hτ rfl rfl rfl ?_
        refine awl_valH hτ rfl rfl rfl ?_
        refine awl_nil ?_
        refine aw_block ?_
        refine aw_hk1 (ι := Bool) (fun v110 => St.of [(1, .ptr 0 0), (3, .d (.int .i64 v73)), (4, .ptr 1 0), (6, .d (.sl false (f_.Buses.map eSBus))), (7, .d (.int .i64 (f_.Buses.length : Int))), (8, .d (.int .i64 v73)), (13, .d (.bool v110))] [.box [.d (.cx .f32 f_.Source.A.re f_.Source.A.im), .d (.cx .f32 f_.Source.B.re f_.Source.B.im), .d (.cx .f32 f_.Source.C.re f_.Source.C.im), .d (.sl false (f_.Buses.map eSBus))], .box [.d (.int .i64 x105.Parent), .d (.cx .f32 x105.Own.re x105.Own.im), .d (.cx .f32 x105.Shared.re x105.Shared.im), .d (.int .i64 x105.Kind), .d (.cx .f32 x105.Load.A.re x105.Load.A.im), .d (.cx .f32 x105.Load.B.re x105.Load.B.im), .d (.cx .f32 x105.Load.C.re x105.Load.C.im), .d (.int .i64 x105.Customers)]] f63.ntmps 0) (fun v110 => m_impl_ValidFeeder_j4 n (m_impl_ValidFeeder_l2 n f_ m88) v73 x105 v110 = some r) ?_ (fun hk131 => ?_)
        · rintro v110 h
          replace h : m_impl_ValidFeeder_j4 n (m_impl_ValidFeeder_l2 n f_ m88) v73 x105 v110 = some r := h
          unfold m_impl_ValidFeeder_j4 at h
          refine aw_cond rfl (fun hc111 => ?_) (fun hc111 => ?_)
          · have h := if_bt h hc111
            refine aw_seq ?_
            refine aw_region ?_
            refine awl_val hτ rfl rfl rfl ?_
            refine awl_nil ?_
            refine aw_weak (weak_ofP [] (l := [(2, .d (.bool false))]) (objs := []) rfl (by simp) rfl (by repeat' first | exact trivial | refine ⟨?_, ?_⟩) ⟨rfl, trivial, trivial⟩) ?_
            refine aw_ret ?_
            have hr := Option.some.inj h
            subst hr
            exact ret_objs (.inr rfl) [] (objs' := []) (new := []) rfl (by simp) (by simp) rfl (by repeat' first | exact trivial | refine ⟨?_, ?_⟩) rfl rfl (by repeat' first | exact trivial | refine ⟨?_, ?_⟩) (fun _ => ⟨by simp [V.flat, V.flatA, V.flatC, D.flat], flat_nil⟩) ⟨rfl, rfl, rfl⟩
          · have h := if_bf h hc111
            refine aw_hk1 (ι := Bool) (fun v117 => St.of [(1, .ptr 0 0), (3, .d (.int .i64 v73)), (4, .ptr 1 0), (6, .d (.sl false (f_.Buses.map eSBus))), (7, .d (.int .i64 (f_.Buses.length : Int))), (8, .d (.int .i64 v73)), (24, .d (.bool v117))] [.box [.d (.cx .f32 f_.Source.A.re f_.Source.A.im), .d (.cx .f32 f_.Source.B.re f_.Source.B.im), .d (.cx .f32 f_.Source.C.re f_.Source.C.im), .d (.sl false (f_.Buses.map eSBus))], .box [.d (.int .i64 x105.Parent), .d (.cx .f32 x105.Own.re x105.Own.im), .d (.cx .f32 x105.Shared.re x105.Shared.im), .d (.int .i64 x105.Kind), .d (.cx .f32 x105.Load.A.re x105.Load.A.im), .d (.cx .f32 x105.Load.B.re x105.Load.B.im), .d (.cx .f32 x105.Load.C.re x105.Load.C.im), .d (.int .i64 x105.Customers)]] f63.ntmps 0) (fun v117 => m_impl_ValidFeeder_j5 n (m_impl_ValidFeeder_l2 n f_ m88) v73 x105 v117 = some r) ?_ (fun hk127 => ?_)
            · rintro v117 h
              replace h : m_impl_ValidFeeder_j5 n (m_impl_ValidFeeder_l2 n f_ m88) v73 x105 v117 = some r := h
              unfold m_impl_ValidFeeder_j5 at h
              refine aw_cond rfl (fun hc118 => ?_) (fun hc118 => ?_)
              · have h := if_bt h hc118
                refine aw_seq ?_
                refine aw_region ?_
                refine awl_val hτ rfl rfl rfl ?_
                refine awl_nil ?_
                refine aw_weak (weak_ofP [] (l := [(2, .d (.bool false))]) (objs := []) rfl (by simp) rfl (by repeat' first | exact trivial | refine ⟨?_, ?_⟩) ⟨rfl, trivial, trivial⟩) ?_
                refine aw_ret ?_
                have hr := Option.some.inj h
                subst hr
                exact ret_objs (.inr rfl) [] (objs' := []) (new := []) rfl (by simp) (by simp) rfl (by repeat' first | exact trivial | refine ⟨?_, ?_⟩) rfl rfl (by repeat' first | exact trivial | refine ⟨?_, ?_⟩) (fun _ => ⟨by simp [V.flat, V.flatA, V.flatC, D.flat], flat_nil⟩) ⟨rfl, rfl, rfl⟩
              · have h := if_bf h hc118
                refine aw_hk1 (ι := Bool) (fun v122 => St.of [(1, .ptr 0 0), (6, .d (.sl false (f_.Buses.map eSBus))), (7, .d (.int .i64 (f_.Buses.length : Int))), (8, .d (.int .i64 v73)), (42, .d (.bool v122))] [.box [.d (.cx .f32 f_.Source.A.re f_.Source.A.im), .d (.cx .f32 f_.Source.B.re f_.Source.B.im), .d (.cx .f32 f_.Source.C.re f_.Source.C.im), .d (.sl false (f_.Buses.map eSBus))]] f63.ntmps 0) (fun v122 => m_impl_ValidFeeder_j6 n (m_impl_ValidFeeder_l2 n f_ m88) v73 v122 = some r) ?_ (fun hk124 => ?_)
                · rintro v122 h
                  replace h : m_impl_ValidFeeder_j6 n (m_impl_ValidFeeder_l2 n f_ m88) v73 v122 = some r := h
                  unfold m_impl_ValidFeeder_j6 at h
                  refine aw_cond rfl (fun hc123 => ?_) (fun hc123 => ?_)
                  · have h := if_bt h hc123
                    refine aw_seq ?_
                    refine aw_region ?_
                    refine awl_val hτ rfl rfl rfl ?_
                    refine awl_nil ?_
                    refine aw_weak (weak_ofP [] (l := [(2, .d (.bool false))]) (objs := []) rfl (by simp) rfl (by repeat' first | exact trivial | refine ⟨?_, ?_⟩) ⟨rfl, trivial, trivial⟩) ?_
                    refine aw_ret ?_
                    have hr := Option.some.inj h
                    subst hr
                    exact ret_objs (.inr rfl) [] (objs' := []) (new := []) rfl (by simp) (by simp) rfl (by repeat' first | exact trivial | refine ⟨?_, ?_⟩) rfl rfl (by repeat' first | exact trivial | refine ⟨?_, ?_⟩) (fun _ => ⟨by simp [V.flat, V.flatA, V.flatC, D.flat], flat_nil⟩) ⟨rfl, rfl, rfl⟩
                  · have h := if_bf h hc123
                    refine aw_skip ?_
                    refine aw_weak (weak_ofP [0] (l := [(1, .ptr 0 0), (6, .d (.sl false (f_.Buses.map eSBus))), (7, .d (.int .i64 (f_.Buses.length : Int))), (8, .d (.int .i64 v73))]) (objs := [.box [.d (.cx .f32 f_.Source.A.re f_.Source.A.im), .d (.cx .f32 f_.Source.B.re f_.Source.B.im), .d (.cx .f32 f_.Source.C.re f_.Source.C.im), .d (.sl false (f_.Buses.map eSBus))]]) rfl (by simp) rfl (by repeat' first | exact trivial | refine ⟨?_, ?_⟩) ⟨rfl, trivial, rfl, trivial, rfl, trivial, rfl, trivial, trivial⟩) ?_
                    exact hk104 () h
                · refine aw_seq ?_
                  refine aw_region ?_
                  refine awl_val hτ rfl rfl rfl ?_
                  refine awl_val hτ rfl rfl rfl ?_
                  refine awl_val hτ rfl rfl rfl ?_
                  refine awl_split 45 rfl (fun hb125 => ?_) (fun hb125 => ?_)
                  · have h := if_t h hb125
                    refine awl_val hτ rfl rfl rfl ?_
                    refine awl_val hτ rfl rfl rfl ?_
                    refine awl_val hτ rfl rfl rfl ?_
                    refine awl_val hτ rfl rfl rfl ?_
                    refine bnd_elim h fun x126 hx126 h => ?_
                    refine awl_callP hτ false [] rfl rfl rfl (enterOk func62 rfl rfl) rfl rfl (by simp) ⟨trivial, trivial, trivial, trivial⟩ (by repeat' first | exact trivial | refine ⟨?_, ?_⟩) (impl_in_ok n x105.Parent (0 : Int) (w64 (v73 - (1 : Int))) hx126) ?_
                    rintro r0 o0 n0 ⟨rfl, rfl, rfl⟩ -
                    refine awl_val hτ rfl rfl rfl ?_
                    refine awl_val hτ rfl rfl rfl ?_
                    refine awl_val hτ rfl rfl rfl ?_
                    refine awl_nil ?_
                    refine aw_weak (weak_ofP [0] (l := [(1, .ptr 0 0), (6, .d (.sl false (f_.Buses.map eSBus))), (7, .d (.int .i64 (f_.Buses.length : Int))), (8, .d (.int .i64 v73)), (42, .d (.bool (!x126)))]) (objs := [.box [.d (.cx .f32 f_.Source.A.re f_.Source.A.im), .d (.cx .f32 f_.Source.B.re f_.Source.B.im), .d (.cx .f32 f_.Source.C.re f_.Source.C.im), .d (.sl false (f_.Buses.map eSBus))]]) rfl (by simp) rfl (by repeat' first | exact trivial | refine ⟨?_, ?_⟩) ⟨rfl, trivial, rfl, trivial, rfl, trivial, rfl, trivial, rfl, trivial, trivial⟩) ?_
                    exact hk124 (!x126) h
                  · have h := if_f h hb125
                    refine awl_skip rfl rfl ?_
                    refine awl_skip rfl rfl ?_
                    refine awl_skip rfl rfl ?_
                    refine awl_skip rfl rfl ?_
                    refine awl_skip rfl rfl ?_
                    refine awl_skip rfl rfl ?_
                    refine awl_val hτ rfl rfl rfl ?_
                    refine awl_val hτ rfl rfl rfl ?_
                    refine awl_nil ?_
                    refine aw_weak (weak_ofP [0] (l := [(1, .ptr 0 0), (6, .d (.sl false (f_.Buses.map eSBus))), (7, .d (.int .i64 (f_.Buses.length : Int))), (8, .d (.int .i64 v73)), (42, .d (.bool false))]) (objs := [.box [.d (.cx .f32 f_.Source.A.re f_.Source.A.im), .d (.cx .f32 f_.Source.B.re f_.Source.B.im), .d (.cx .f32 f_.Source.C.re f_.Source.C.im), .d (.sl false (f_.Buses.map eSBus))]]) rfl (by simp) rfl (by repeat' first | exact trivial | refine ⟨?_, ?_⟩) ⟨rfl, trivial, rfl, trivial, rfl, trivial, rfl, trivial, rfl, trivial, trivial⟩) ?_
                    exact hk124 false h
            · refine aw_seq ?_
              refine aw_region ?_
              refine awl_val hτ rfl rfl rfl ?_
              refine awl_val hτ (v := .d (.bool (decide (v73 = (0 : Int))))) rfl rfl (or_ieq _ _) ?_
              refine awl_val hτ rfl rfl rfl ?_
              refine awl_split 27 rfl (fun hb128 => ?_) (fun hb128 => ?_)
              · have h := if_t h hb128
                refine awl_val hτ rfl rfl rfl ?_
                refine awl_val hτ rfl rfl rfl ?_
                refine awl_val hτ (v := .d (.bool (!(decide (x105.Parent = (-1 : Int)))))) rfl rfl (or_ine _ _) ?_
                refine awl_val hτ rfl rfl rfl ?_
                refine awl_split 31 rfl (fun hb129 => ?_) (fun hb129 => ?_)
                · have hb129 := not_t hb129
                  have h := if_f h hb129
                  refine awl_skip rfl rfl ?_
                  refine awl_skip rfl rfl ?_
                  refine awl_skip rfl rfl ?_
                  refine awl_val hτ rfl rfl rfl ?_
                  refine awl_val hτ rfl rfl rfl ?_
                  refine awl_weak (weak_ofP [0, 1] (l := [(1, .ptr 0 0), (3, .d (.int .i64 v73)), (4, .ptr 1 0), (6, .d (.sl false (f_.Buses.map eSBus))), (7, .d (.int .i64 (f_.Buses.length : Int))), (8, .d (.int .i64 v73)), (27, .d (.bool true)), (36, .d (.bool true))]) (objs := [.box [.d (.cx .f32 f_.Source.A.re f_.Source.A.im), .d (.cx .f32 f_.Source.B.re f_.Source.B.im), .d (.cx .f32 f_.Source.C.re f_.Source.C.im), .d (.sl false (f_.Buses.map eSBus))], .box [.d (.int .i64 x105.Parent), .d (.cx .f32 x105.Own.re x105.Own.im), .d (.cx .f32 x105.Shared.re x105.Shared.im), .d (.int .i64 x105.Kind), .d (.cx .f32 x105.Load.A.re x105.Load.A.im), .d (.cx .f32 x105.Load.B.re x105.Load.B.im), .d (.cx .f32 x105.Load.C.re x105.Load.C.im), .d (.int .i64 x105.Customers)]]) rfl (by simp) rfl (by repeat' first | exact trivial | refine ⟨?_, ?_⟩) ⟨rfl, trivial, rfl, trivial, rfl, trivial, rfl, trivial, rfl, trivial, rfl, trivial, rfl, trivial, rfl, trivial, trivial⟩) ?_
                  refine awl_skip rfl rfl ?_
                  refine awl_skip rfl rfl ?_
                  refine awl_skip rfl rfl ?_
                  refine awl_val hτ rfl rfl rfl ?_
                  refine awl_val hτ rfl rfl rfl ?_
                  refine awl_val hτ rfl rfl rfl ?_
                  refine awl_nil ?_
                  refine aw_weak (weak_ofP [0, 1] (l := [(1, .ptr 0 0), (3, .d (.int .i64 v73)), (4, .ptr 1 0), (6, .d (.sl false (f_.Buses.map eSBus))), (7, .d (.int .i64 (f_.Buses.length : Int))), (8, .d (.int .i64 v73)), (24, .d (.bool true))]) (objs := [.box [.d (.cx .f32 f_.Source.A.re f_.Source.A.im), .d (.cx .f32 f_.Source.B.re f_.Source.B.im), .d (.cx .f32 f_.Source.C.re f_.Source.C.im), .d (.sl false (f_.Buses.map eSBus))], .box [.d (.int .i64 x105.Parent), .d (.cx .f32 x105.Own.re x105.Own.im), .d (.cx .f32 x105.Shared.re x105.Shared.im), .d (.int .i64 x105.Kind), .d (.cx .f32 x105.Load.A.re x105.Load.A.im), .d (.cx .f32 x105.Load.B.re x105.Load.B.im), .d (.cx .f32 x105.Load.C.re x105.Load.C.im), .d (.int .i64 x105.Customers)]]) rfl (by simp) rfl (by repeat' first | exact trivial | refine ⟨?_, ?_⟩) ⟨rfl, trivial, rfl, trivial, rfl, trivial, rfl, trivial, rfl, trivial, rfl, trivial, rfl, trivial, trivial⟩) ?_
                  exact hk127 true h
                · have hb129 := not_f hb129
                  have h := if_t h hb129
                  refine awl_val hτ rfl rfl rfl ?_
                  refine awl_val hτ rfl rfl rfl ?_
                  refine awl_val hτ rfl rfl rfl ?_
                  refine awl_val hτ rfl rfl rfl ?_
                  refine awl_val hτ rfl rfl rfl ?_
                  refine awl_weak (weak_ofP [0, 1] (l := [(1, .ptr 0 0), (3, .d (.int .i64 v73)), (4, .ptr 1 0), (6, .d (.sl false (f_.Buses.map eSBus))), (7, .d (.int .i64 (f_.Buses.length : Int))), (8, .d (.int .i64 v73)), (27, .d (.bool true)), (36, .d (.bool (!(fcmp .eql .f32 x105.Own.re (0 : Nat) && fcmp .eql .f32 x105.Own.im (0 : Nat)))))]) (objs := [.box [.d (.cx .f32 f_.Source.A.re f_.Source.A.im), .d (.cx .f32 f_.Source.B.re f_.Source.B.im), .d (.cx .f32 f_.Source.C.re f_.Source.C.im), .d (.sl false (f_.Buses.map eSBus))], .box [.d (.int .i64 x105.Parent), .d (.cx .f32 x105.Own.re x105.Own.im), .d (.cx .f32 x105.Shared.re x105.Shared.im), .d (.int .i64 x105.Kind), .d (.cx .f32 x105.Load.A.re x105.Load.A.im), .d (.cx .f32 x105.Load.B.re x105.Load.B.im), .d (.cx .f32 x105.Load.C.re x105.Load.C.im), .d (.int .i64 x105.Customers)]]) rfl (by simp) rfl (by repeat' first | exact trivial | refine ⟨?_, ?_⟩) ⟨rfl, trivial, rfl, trivial, rfl, trivial, rfl, trivial, rfl, trivial, rfl, trivial, rfl, trivial, rfl, trivial, trivial⟩) ?_
                  refine awl_split 36 rfl (fun hb130 => ?_) (fun hb130 => ?_)
                  · have hb130 := not_t hb130
                    have h := if_bf h hb130
                    refine awl_skip rfl rfl ?_
                    refine awl_skip rfl rfl ?_
                    refine awl_skip rfl rfl ?_
                    refine awl_val hτ rfl rfl rfl ?_
                    refine awl_val hτ rfl rfl rfl ?_
                    refine awl_val hτ rfl rfl rfl ?_
                    refine awl_nil ?_
                    refine aw_weak (weak_ofP [0, 1] (l := [(1, .ptr 0 0), (3, .d (.int .i64 v73)), (4, .ptr 1 0), (6, .d (.sl false (f_.Buses.map eSBus))), (7, .d (.int .i64 (f_.Buses.length : Int))), (8, .d (.int .i64 v73)), (24, .d (.bool true))]) (objs := [.box [.d (.cx .f32 f_.Source.A.re f_.Source.A.im), .d (.cx .f32 f_.Source.B.re f_.Source.B.im), .d (.cx .f32 f_.Source.C.re f_.Source.C.im), .d (.sl false (f_.Buses.map eSBus))], .box [.d (.int .i64 x105.Parent), .d (.cx .f32 x105.Own.re x105.Own.im), .d (.cx .f32 x105.Shared.re x105.Shared.im), .d (.int .i64 x105.Kind), .d (.cx .f32 x105.Load.A.re x105.Load.A.im), .d (.cx .f32 x105.Load.B.re x105.Load.B.im), .d (.cx .f32 x105.Load.C.re x105.Load.C.im), .d (.int .i64 x105.Customers)]]) rfl (by simp) rfl (by repeat' first | exact trivial | refine ⟨?_, ?_⟩) ⟨rfl, trivial, rfl, trivial, rfl, trivial, rfl, trivial, rfl, trivial, rfl, trivial, rfl, trivial, trivial⟩) ?_
                    exact hk127 true h
                  · have hb130 := not_f hb130
                    have h := if_bt h hb130
                    refine awl_val hτ rfl rfl rfl ?_
                    refine awl_val hτ rfl rfl rfl ?_
                    refine awl_val hτ rfl rfl rfl ?_
                    refine awl_val hτ rfl rfl rfl ?_
                    refine awl_val hτ rfl rfl rfl ?_
                    refine awl_val hτ rfl rfl rfl ?_
                    refine awl_nil ?_
                    refine aw_weak (weak_ofP [0, 1] (l := [(1, .ptr 0 0), (3, .d (.int .i64 v73)), (4, .ptr 1 0), (6, .d (.sl false (f_.Buses.map eSBus))), (7, .d (.int .i64 (f_.Buses.length : Int))), (8, .d (.int .i64 v73)), (24, .d (.bool (!(fcmp .eql .f32 x105.Shared.re (0 : Nat) && fcmp .eql .f32 x105.Shared.im (0 : Nat)))))]) (objs := [.box [.d (.cx .f32 f_.Source.A.re f_.Source.A.im), .d (.cx .f32 f_.Source.B.re f_.Source.B.im), .d (.cx .f32 f_.Source.C.re f_.Source.C.im), .d (.sl false (f_.Buses.map eSBus))], .box [.d (.int .i64 x105.Parent), .d (.cx .f32 x105.Own.re x105.Own.im), .d (.cx .f32 x105.Shared.re x105.Shared.im), .d (.int .i64 x105.Kind), .d (.cx .f32 x105.Load.A.re x105.Load.A.im), .d (.cx .f32 x105.Load.B.re x105.Load.B.im), .d (.cx .f32 x105.Load.C.re x105.Load.C.im), .d (.int .i64 x105.Customers)]]) rfl (by simp) rfl (by repeat' first | exact trivial | refine ⟨?_, ?_⟩) ⟨rfl, trivial, rfl, trivial, rfl, trivial, rfl, trivial, rfl, trivial, rfl, trivial, rfl, trivial, trivial⟩) ?_
                    exact hk127 (!(fcmp .eql .f32 x105.Shared.re (0 : Nat) && fcmp .eql .f32 x105.Shared.im (0 : Nat))) h
              · have h := if_f h hb128
                refine awl_skip rfl rfl ?_
                refine awl_skip rfl rfl ?_
                refine awl_skip rfl rfl ?_
                refine awl_skip rfl rfl ?_
                refine awl_skip rfl rfl ?_
                refine awl_skip rfl rfl ?_
                refine awl_skip rfl rfl ?_
                refine awl_skip rfl rfl ?_
                refine awl_skip rfl rfl ?_
                refine awl_weak (weak_ofP [0, 1] (l := [(1, .ptr 0 0), (3, .d (.int .i64 v73)), (4, .ptr 1 0), (6, .d (.sl false (f_.Buses.map eSBus))), (7, .d (.int .i64 (f_.Buses.length : Int))), (8, .d (.int .i64 v73)), (27, .d (.bool false)), (36, .und)]) (objs := [.box [.d (.cx .f32 f_.Source.A.re f_.Source.A.im), .d (.cx .f32 f_.Source.B.re f_.Source.B.im), .d (.cx .f32 f_.Source.C.re f_.Source.C.im), .d (.sl false (f_.Buses.map eSBus))], .box [.d (.int .i64 x105.Parent), .d (.cx .f32 x105.Own.re x105.Own.im), .d (.cx .f32 x105.Shared.re x105.Shared.im), .d (.int .i64 x105.Kind), .d (.cx .f32 x105.Load.A.re x105.Load.A.im), .d (.cx .f32 x105.Load.B.re x105.Load.B.im), .d (.cx .f32 x105.Load.C.re x105.Load.C.im), .d (.int .i64 x105.Customers)]]) rfl (by simp) rfl (by repeat' first | exact trivial | refine ⟨?_, ?_⟩) ⟨rfl, trivial, rfl, trivial, rfl, trivial, rfl, trivial, rfl, trivial, rfl, trivial, rfl, trivial, rfl, trivial, trivial⟩) ?_
                refine awl_skip rfl rfl ?_
                refine awl_skip rfl rfl ?_
                refine awl_skip rfl rfl ?_
                refine awl_skip rfl rfl ?_
                refine awl_val hτ rfl rfl rfl ?_
                refine awl_val hτ rfl rfl rfl ?_
                refine awl_nil ?_
                refine aw_weak (weak_ofP [0, 1] (l := [(1, .ptr 0 0), (3, .d (.int .i64 v73)), (4, .ptr 1 0), (6, .d (.sl false (f_.Buses.map eSBus))), (7, .d (.int .i64 (f_.Buses.length : Int))), (8, .d (.int .i64 v73)), (24, .d (.bool false))]) (objs := [.box [.d (.cx .f32 f_.Source.A.re f_.Source.A.im), .d (.cx .f32 f_.Source.B.re f_.Source.B.im), .d (.cx .f32 f_.Source.C.re f_.Source.C.im), .d (.sl false (f_.Buses.map eSBus))], .box [.d (.int .i64 x105.Parent), .d (.cx .f32 x105.Own.re x105.Own.im), .d (.cx .f32 x105.Shared.re x105.Shared.im), .d (.int .i64 x105.Kind), .d (.cx .f32 x105.Load.A.re x105.Load.A.im), .d (.cx .f32 x105.Load.B.re x105.Load.B.im), .d (.cx .f32 x105.Load.C.re x105.Load.C.im), .d (.int .i64 x105.Customers)]]) rfl (by simp) rfl (by repeat' first | exact trivial | refine ⟨?_, ?_⟩) ⟨rfl, trivial, rfl, trivial, rfl, trivial, rfl, trivial, rfl, trivial, rfl, trivial, rfl, trivial, trivial⟩) ?_
                exact hk127 false h
        · refine aw_seq ?_
          refine aw_weak (weak_ofP [0, 1] (l := [(1, .ptr 0 0), (3, .d (.int .i64 v73)), (4, .ptr 1 0), (6, .d (.sl false (f_.Buses.map eSBus))), (7, .d (.int .i64 (f_.Buses.length : Int))), (8, .d (.int .i64 v73))]) (objs := [.box [.d (.cx .f32 f_.Source.A.re f_.Source.A.im), .d (.cx .f32 f_.Source.B.re f_.Source.B.im), .d (.cx .f32 f_.Source.C.re f_.Source.C.im), .d (.sl false (f_.Buses.map eSBus))], .box [.d (.int .i64 x105.Parent), .d (.cx .f32 x105.Own.re x105.Own.im), .d (.cx .f32 x105.Shared.re x105.Shared.im), .d (.int .i64 x105.Kind), .d (.cx .f32 x105.Load.A.re x105.Load.A.im), .d (.cx .f32 x105.Load.B.re x105.Load.B.im), .d (.cx .f32 x105.Load.C.re x105.Load.C.im), .d (.int .i64 x105.Customers)]]) rfl (by simp) rfl (by repeat' first | exact trivial | refine ⟨?_, ?_⟩) ⟨rfl, trivial, rfl, trivial, rfl, trivial, rfl, trivial, rfl, trivial, rfl, trivial, trivial⟩) ?_
          refine aw_region ?_
          refine awl_val hτ rfl rfl rfl ?_
          refine awl_val hτ rfl rfl rfl ?_
          refine bnd_elim h fun x132 hx132 h => ?_
          refine awl_callP hτ false [] rfl rfl rfl (enterOk func106 rfl rfl) rfl rfl (by simp) ⟨trivial, trivial⟩ (by repeat' first | exact trivial | refine ⟨?_, ?_⟩) (impl_kindOk_ok n x105.Kind hx132) ?_
          rintro r0 o0 n0 ⟨rfl, rfl, rfl⟩ -
          refine awl_val hτ rfl rfl rfl ?_
          refine awl_val hτ rfl rfl rfl ?_
          refine awl_split 18 rfl (fun hb133 => ?_) (fun hb133 => ?_)
          · have hb133 := not_t hb133
            have h := if_bf h hb133
            refine awl_skip rfl rfl ?_
            refine awl_skip rfl rfl ?_
            refine awl_skip rfl rfl ?_
            refine awl_skip rfl rfl ?_
            refine awl_val hτ rfl rfl rfl ?_
            refine awl_val hτ rfl rfl rfl ?_
            refine awl_nil ?_
            refine aw_weak (weak_ofP [0, 1] (l := [(1, .ptr 0 0), (3, .d (.int .i64 v73)), (4, .ptr 1 0), (6, .d (.sl false (f_.Buses.map eSBus))), (7, .d (.int .i64 (f_.Buses.length : Int))), (8, .d (.int .i64 v73)), (13, .d (.bool true))]) (objs := [.box [.d (.cx .f32 f_.Source.A.re f_.Source.A.im), .d (.cx .f32 f_.Source.B.re f_.Source.B.im), .d (.cx .f32 f_.Source.C.re f_.Source.C.im), .d (.sl false (f_.Buses.map eSBus))], .box [.d (.int .i64 x105.Parent), .d (.cx .f32 x105.Own.re x105.Own.im), .d (.cx .f32 x105.Shared.re x105.Shared.im), .d (.int .i64 x105.Kind), .d (.cx .f32 x105.Load.A.re x105.Load.A.im), .d (.cx .f32 x105.Load.B.re x105.Load.B.im), .d (.cx .f32 x105.Load.C.re x105.Load.C.im), .d (.int .i64 x105.Customers)]]) rfl (by simp) rfl (by repeat' first | exact trivial | refine ⟨?_, ?_⟩) ⟨rfl, trivial, rfl, trivial, rfl, trivial, rfl, trivial, rfl, trivial, rfl, trivial, rfl, trivial, trivial⟩) ?_
            exact hk131 true h
          · have hb133 := not_f hb133
            have h := if_bt h hb133
            refine awl_val hτ rfl rfl rfl ?_
            refine awl_val hτ rfl rfl rfl ?_
            refine bnd_elim h fun x134 hx134 h => ?_
            refine awl_callP hτ false [] rfl rfl rfl (enterOk func62 rfl rfl) rfl rfl (by simp) ⟨trivial, trivial, trivial, trivial⟩ (by repeat' first | exact trivial | refine ⟨?_, ?_⟩) (impl_in_ok n x105.Customers (0 : Int) (1000000 : Int) hx134) ?_
            rintro r0 o0 n0 ⟨rfl, rfl, rfl⟩ -
            refine awl_val hτ rfl rfl rfl ?_
            refine awl_val hτ rfl rfl rfl ?_
            refine awl_val hτ rfl rfl rfl ?_
            refine awl_nil ?_
            refine aw_weak (weak_ofP [0, 1] (l := [(1, .ptr 0 0), (3, .d (.int .i64 v73)), (4, .ptr 1 0), (6, .d (.sl false (f_.Buses.map eSBus))), (7, .d (.int .i64 (f_.Buses.length : Int))), (8, .d (.int .i64 v73)), (13, .d (.bool (!x134)))]) (objs := [.box [.d (.cx .f32 f_.Source.A.re f_.Source.A.im), .d (.cx .f32 f_.Source.B.re f_.Source.B.im), .d (.cx .f32 f_.Source.C.re f_.Source.C.im), .d (.sl false (f_.Buses.map eSBus))], .box [.d (.int .i64 x105.Parent), .d (.cx .f32 x105.Own.re x105.Own.im), .d (.cx .f32 x105.Shared.re x105.Shared.im), .d (.int .i64 x105.Kind), .d (.cx .f32 x105.Load.A.re x105.Load.A.im), .d (.cx .f32 x105.Load.B.re x105.Load.B.im), .d (.cx .f32 x105.Load.C.re x105.Load.C.im), .d (.int .i64 x105.Customers)]]) rfl (by simp) rfl (by repeat' first | exact trivial | refine ⟨?_, ?_⟩) ⟨rfl, trivial, rfl, trivial, rfl, trivial, rfl, trivial, rfl, trivial, rfl, trivial, rfl, trivial, trivial⟩) ?_
            exact hk131 (!x134) h
    · have h := if_f h hc90
      refine aw_exit ?_
      refine aw_weak (weak_ofP [0] (l := [(1, .ptr 0 0)]) (objs := [.box [.d (.cx .f32 f_.Source.A.re f_.Source.A.im), .d (.cx .f32 f_.Source.B.re f_.Source.B.im), .d (.cx .f32 f_.Source.C.re f_.Source.C.im), .d (.sl false (f_.Buses.map eSBus))]]) rfl (by simp) rfl (by repeat' first | exact trivial | refine ⟨?_, ?_⟩) ⟨rfl, trivial, trivial⟩) ?_
      exact hk59 () h
theorem impl_ValidFeeder_ok (n : Nat) (f_ : SFeeder) {r : Bool} (h : m_impl_ValidFeeder n f_ = some r) : ACall prog false 63 [.agg [.d (.cx .f32 f_.Source.A.re f_.Source.A.im), .d (.cx .f32 f_.Source.B.re f_.Source.B.im), .d (.cx .f32 f_.Source.C.re f_.Source.C.im), .d (.sl false (f_.Buses.map eSBus))]] [] (fun v o new => v = .d (.bool r) ∧ o = [] ∧ new = []) := impl_ValidFeeder_ok_fr0 false n f_ h
theorem impl_ValidFeeder_ok_fr (n : Nat) (f_ : SFeeder) {r : Bool} (h : m_impl_ValidFeeder n f_ = some r) : ACall prog true 63 [.agg [.d (.cx .f32 f_.Source.A.re f_.Source.A.im), .d (.cx .f32 f_.Source.B.re f_.Source.B.im), .d (.cx .f32 f_.Source.C.re f_.Source.C.im), .d (.sl false (f_.Buses.map eSBus))]] [] (fun v o new => v = .d (.bool r) ∧ o = [] ∧ new = []) := impl_ValidFeeder_ok_fr0 true n f_ h

def m_impl_Tie_ok (n : Nat) (t_ : STie) (buses_ : Int) : Option Bool :=
  if t_.A = t_.B then
    some false
  else
    (m_impl_in n t_.A (0 : Int) (w64 (buses_ - (1 : Int)))).bind fun x11 =>
    if x11 = true then
      (m_impl_in n t_.B (0 : Int) (w64 (buses_ - (1 : Int)))).bind fun x13 =>
      if x13 = true then
        (m_impl_in n t_.Most (0 : Int) (16000000 : Int)).bind fun x15 =>
        some x15
      else
        some false
    else
      some false
theorem impl_Tie_ok_ok_fr0 (fr : Bool) (n : Nat) (t_ : STie) (buses_ : Int) {r : Bool} (h : m_impl_Tie_ok n t_ buses_ = some r) : ACall prog fr 125 [.ptr 0 0, .d (.int .i64 buses_)] [.box [.d (.int .i64 t_.A), .d (.int .i64 t_.B), .d (.cx .f32 t_.Own.re t_.Own.im), .d (.cx .f32 t_.Shared.re t_.Shared.im), .d (.int .i64 t_.Most)]] (fun v o new => v = .d (.bool r) ∧ o = [.box [.d (.int .i64 t_.A), .d (.int .i64 t_.B), .d (.cx .f32 t_.Own.re t_.Own.im), .d (.cx .f32 t_.Shared.re t_.Shared.im), .d (.int .i64 t_.Most)]] ∧ new = []) := by
  refine acall_of_aw hτ func125 rfl (by simp) (by simp) ?_
  unfold m_impl_Tie_ok at h
  refine aw_seq ?_
  refine aw_region ?_
  refine awl_val hτ rfl rfl rfl ?_
  refine awl_nil ?_
  refine aw_seq ?_
  refine any_start ?_
  refine any_val hτ [] 0 rfl rfl rfl rfl rfl ?_
  refine any_val hτ [] 1 rfl rfl rfl rfl rfl ?_
  refine any_val hτ [0] 2 rfl rfl rfl rfl rfl ?_
  refine any_val hτ [0] 3 rfl rfl rfl rfl rfl ?_
  refine any_val hτ [] 4 rfl rfl rfl rfl rfl ?_
  refine any_val hτ [] 5 rfl rfl rfl rfl rfl ?_
  refine any_val hτ [0] 6 rfl rfl rfl rfl rfl ?_
  refine any_val hτ [0] 7 rfl rfl rfl rfl rfl ?_
  refine any_val hτ (v := .d (.bool (!(decide (t_.A = t_.B))))) [] 8 rfl rfl rfl rfl (or_ine _ _) ?_
  refine any_val hτ [] 9 rfl rfl rfl rfl rfl ?_
  refine any_split 14 rfl (fun hb10 => ?_) (fun hb10 => ?_)
  · have hb10 := not_t hb10
    have h := if_f h hb10
    refine any_val hτ [] 10 rfl rfl rfl rfl rfl ?_
    refine any_val hτ [] 11 rfl rfl rfl rfl rfl ?_
    refine any_val hτ [0] 12 rfl rfl rfl rfl rfl ?_
    refine any_val hτ [0] 13 rfl rfl rfl rfl rfl ?_
    refine any_val hτ [] 14 rfl rfl rfl rfl rfl ?_
    refine any_val hτ [] 15 rfl rfl rfl rfl rfl ?_
    refine bnd_elim h fun x11 hx11 h => ?_
    refine any_callP hτ false [] [0] 16 rfl rfl rfl rfl (enterOk func62 rfl rfl) rfl rfl (by simp) ⟨trivial, trivial, trivial, trivial⟩ (by repeat' first | exact trivial | refine ⟨?_, ?_⟩) (impl_in_ok n t_.A (0 : Int) (w64 (buses_ - (1 : Int))) hx11) ⟨rfl, trivial⟩ ?_
    refine any_val hτ [] 17 rfl rfl rfl rfl rfl ?_
    refine any_val hτ [] 18 rfl rfl rfl rfl rfl ?_
    refine any_split 23 rfl (fun hb12 => ?_) (fun hb12 => ?_)
    · have h := if_bt h hb12
      refine any_val hτ [] 19 rfl rfl rfl rfl rfl ?_
      refine any_val hτ [] 20 rfl rfl rfl rfl rfl ?_
      refine any_val hτ [0] 21 rfl rfl rfl rfl rfl ?_
      refine any_val hτ [0] 22 rfl rfl rfl rfl rfl ?_
      refine any_val hτ [] 23 rfl rfl rfl rfl rfl ?_
      refine any_val hτ [] 24 rfl rfl rfl rfl rfl ?_
      refine bnd_elim h fun x13 hx13 h => ?_
      refine any_callP hτ false [] [0] 25 rfl rfl rfl rfl (enterOk func62 rfl rfl) rfl rfl (by simp) ⟨trivial, trivial, trivial, trivial⟩ (by repeat' first | exact trivial | refine ⟨?_, ?_⟩) (impl_in_ok n t_.B (0 : Int) (w64 (buses_ - (1 : Int))) hx13) ⟨rfl, trivial⟩ ?_
      refine any_val hτ [] 26 rfl rfl rfl rfl rfl ?_
      refine any_val hτ [] 27 rfl rfl rfl rfl rfl ?_
      refine any_split 32 rfl (fun hb14 => ?_) (fun hb14 => ?_)
      · have h := if_bt h hb14
        refine any_val hτ [] 28 rfl rfl rfl rfl rfl ?_
        refine any_val hτ [] 29 rfl rfl rfl rfl rfl ?_
        refine any_val hτ [0] 30 rfl rfl rfl rfl rfl ?_
        refine any_val hτ [0] 31 rfl rfl rfl rfl rfl ?_
        refine bnd_elim h fun x15 hx15 h => ?_
        refine any_callP hτ false [] [0] 32 rfl rfl rfl rfl (enterOk func62 rfl rfl) rfl rfl (by simp) ⟨trivial, trivial, trivial, trivial⟩ (by repeat' first | exact trivial | refine ⟨?_, ?_⟩) (impl_in_ok n t_.Most (0 : Int) (16000000 : Int) hx15) ⟨rfl, trivial⟩ ?_
        refine any_val hτ [] 33 rfl rfl rfl rfl rfl ?_
        refine any_val hτ [] 34 rfl rfl rfl rfl rfl ?_
        refine any_done mixed (by kernel_rfl) ?_
        refine aw_weak (weak_ofP [0] (l := [(4, .d (.bool x15))]) (objs := [.box [.d (.int .i64 t_.A), .d (.int .i64 t_.B), .d (.cx .f32 t_.Own.re t_.Own.im), .d (.cx .f32 t_.Shared.re t_.Shared.im), .d (.int .i64 t_.Most)]]) rfl (by simp) rfl (by repeat' first | exact trivial | refine ⟨?_, ?_⟩) ⟨rfl, trivial, trivial⟩) ?_
        refine aw_ret ?_
        have hr := Option.some.inj h
        subst hr
        exact ret_objs (.inr rfl) [] (objs' := [.box [.d (.int .i64 t_.A), .d (.int .i64 t_.B), .d (.cx .f32 t_.Own.re t_.Own.im), .d (.cx .f32 t_.Shared.re t_.Shared.im), .d (.int .i64 t_.Most)]]) (new := []) rfl (by simp) (by simp) rfl (by repeat' first | exact trivial | refine ⟨?_, ?_⟩) rfl rfl (by repeat' first | exact trivial | refine ⟨?_, ?_⟩) (fun _ => ⟨by simp [V.flat, V.flatA, V.flatC, D.flat], (flat_cons (by simp [AObj.flat, V.flatC, D.flat]) flat_nil)⟩) ⟨rfl, rfl, rfl⟩
      · have h := if_bf h hb14
        refine any_skip 28 rfl rfl rfl ?_
        refine any_skip 29 rfl rfl rfl ?_
        refine any_skip 30 rfl rfl rfl ?_
        refine any_skip 31 rfl rfl rfl ?_
        refine any_skip 32 rfl rfl rfl ?_
        refine any_val hτ [] 33 rfl rfl rfl rfl rfl ?_
        refine any_val hτ [] 34 rfl rfl rfl rfl rfl ?_
        refine any_done mixed (by kernel_rfl) ?_
        refine aw_weak (weak_ofP [0] (l := [(4, .d (.bool false))]) (objs := [.box [.d (.int .i64 t_.A), .d (.int .i64 t_.B), .d (.cx .f32 t_.Own.re t_.Own.im), .d (.cx .f32 t_.Shared.re t_.Shared.im), .d (.int .i64 t_.Most)]]) rfl (by simp) rfl (by repeat' first | exact trivial | refine ⟨?_, ?_⟩) ⟨rfl, trivial, trivial⟩) ?_
        refine aw_ret ?_
        have hr := Option.some.inj h
        subst hr
        exact ret_objs (.inr rfl) [] (objs' := [.box [.d (.int .i64 t_.A), .d (.int .i64 t_.B), .d (.cx .f32 t_.Own.re t_.Own.im), .d (.cx .f32 t_.Shared.re t_.Shared.im), .d (.int .i64 t_.Most)]]) (new := []) rfl (by simp) (by simp) rfl (by repeat' first | exact trivial | refine ⟨?_, ?_⟩) rfl rfl (by repeat' first | exact trivial | refine ⟨?_, ?_⟩) (fun _ => ⟨by simp [V.flat, V.flatA, V.flatC, D.flat], (flat_cons (by simp [AObj.flat, V.flatC, D.flat]) flat_nil)⟩) ⟨rfl, rfl, rfl⟩
    · have h := if_bf h hb12
      refine any_skip 19 rfl rfl rfl ?_
      refine any_skip 20 rfl rfl rfl ?_
      refine any_skip 21 rfl rfl rfl ?_
      refine any_skip 22 rfl rfl rfl ?_
      refine any_skip 23 rfl rfl rfl ?_
      refine any_skip 24 rfl rfl rfl ?_
      refine any_skip 25 rfl rfl rfl ?_
      refine any_val hτ [] 26 rfl rfl rfl rfl rfl ?_
      refine any_val hτ [] 27 rfl rfl rfl rfl rfl ?_
      refine any_skip 28 rfl rfl rfl ?_
      refine any_skip 29 rfl rfl rfl ?_
      refine any_skip 30 rfl rfl rfl ?_
      refine any_skip 31 rfl rfl rfl ?_
      refine any_skip 32 rfl rfl rfl ?_
      refine any_val hτ [] 33 rfl rfl rfl rfl rfl ?_
      refine any_val hτ [] 34 rfl rfl rfl rfl rfl ?_
      refine any_done mixed (by kernel_rfl) ?_
      refine aw_weak (weak_ofP [0] (l := [(4, .d (.bool false))]) (objs := [.box [.d (.int .i64 t_.A), .d (.int .i64 t_.B), .d (.cx .f32 t_.Own.re t_.Own.im), .d (.cx .f32 t_.Shared.re t_.Shared.im), .d (.int .i64 t_.Most)]]) rfl (by simp) rfl (by repeat' first | exact trivial | refine ⟨?_, ?_⟩) ⟨rfl, trivial, trivial⟩) ?_
      refine aw_ret ?_
      have hr := Option.some.inj h
      subst hr
      exact ret_objs (.inr rfl) [] (objs' := [.box [.d (.int .i64 t_.A), .d (.int .i64 t_.B), .d (.cx .f32 t_.Own.re t_.Own.im), .d (.cx .f32 t_.Shared.re t_.Shared.im), .d (.int .i64 t_.Most)]]) (new := []) rfl (by simp) (by simp) rfl (by repeat' first | exact trivial | refine ⟨?_, ?_⟩) rfl rfl (by repeat' first | exact trivial | refine ⟨?_, ?_⟩) (fun _ => ⟨by simp [V.flat, V.flatA, V.flatC, D.flat], (flat_cons (by simp [AObj.flat, V.flatC, D.flat]) flat_nil)⟩) ⟨rfl, rfl, rfl⟩
  · have hb10 := not_f hb10
    have h := if_t h hb10
    refine any_skip 10 rfl rfl rfl ?_
    refine any_skip 11 rfl rfl rfl ?_
    refine any_skip 12 rfl rfl rfl ?_
    refine any_skip 13 rfl rfl rfl ?_
    refine any_skip 14 rfl rfl rfl ?_
    refine any_skip 15 rfl rfl rfl ?_
    refine any_skip 16 rfl rfl rfl ?_
    refine any_val hτ [] 17 rfl rfl rfl rfl rfl ?_
    refine any_val hτ [] 18 rfl rfl rfl rfl rfl ?_
    refine any_skip 19 rfl rfl rfl ?_
    refine any_skip 20 rfl rfl rfl ?_
    refine any_skip 21 rfl rfl rfl ?_
    refine any_skip 22 rfl rfl rfl ?_
    refine any_skip 23 rfl rfl rfl ?_
    refine any_skip 24 rfl rfl rfl ?_
    refine any_skip 25 rfl rfl rfl ?_
    refine any_val hτ [] 26 rfl rfl rfl rfl rfl ?_
    refine any_val hτ [] 27 rfl rfl rfl rfl rfl ?_
    refine any_skip 28 rfl rfl rfl ?_
    refine any_skip 29 rfl rfl rfl ?_
    refine any_skip 30 rfl rfl rfl ?_
    refine any_skip 31 rfl rfl rfl ?_
    refine any_skip 32 rfl rfl rfl ?_
    refine any_val hτ [] 33 rfl rfl rfl rfl rfl ?_
    refine any_val hτ [] 34 rfl rfl rfl rfl rfl ?_
    refine any_done mixed (by kernel_rfl) ?_
    refine aw_weak (weak_ofP [0] (l := [(4, .d (.bool false))]) (objs := [.box [.d (.int .i64 t_.A), .d (.int .i64 t_.B), .d (.cx .f32 t_.Own.re t_.Own.im), .d (.cx .f32 t_.Shared.re t_.Shared.im), .d (.int .i64 t_.Most)]]) rfl (by simp) rfl (by repeat' first | exact trivial | refine ⟨?_, ?_⟩) ⟨rfl, trivial, trivial⟩) ?_
    refine aw_ret ?_
    have hr := Option.some.inj h
    subst hr
    exact ret_objs (.inr rfl) [] (objs' := [.box [.d (.int .i64 t_.A), .d (.int .i64 t_.B), .d (.cx .f32 t_.Own.re t_.Own.im), .d (.cx .f32 t_.Shared.re t_.Shared.im), .d (.int .i64 t_.Most)]]) (new := []) rfl (by simp) (by simp) rfl (by repeat' first | exact trivial | refine ⟨?_, ?_⟩) rfl rfl (by repeat' first | exact trivial | refine ⟨?_, ?_⟩) (fun _ => ⟨by simp [V.flat, V.flatA, V.flatC, D.flat], (flat_cons (by simp [AObj.flat, V.flatC, D.flat]) flat_nil)⟩) ⟨rfl, rfl, rfl⟩
theorem impl_Tie_ok_ok (n : Nat) (t_ : STie) (buses_ : Int) {r : Bool} (h : m_impl_Tie_ok n t_ buses_ = some r) : ACall prog false 125 [.ptr 0 0, .d (.int .i64 buses_)] [.box [.d (.int .i64 t_.A), .d (.int .i64 t_.B), .d (.cx .f32 t_.Own.re t_.Own.im), .d (.cx .f32 t_.Shared.re t_.Shared.im), .d (.int .i64 t_.Most)]] (fun v o new => v = .d (.bool r) ∧ o = [.box [.d (.int .i64 t_.A), .d (.int .i64 t_.B), .d (.cx .f32 t_.Own.re t_.Own.im), .d (.cx .f32 t_.Shared.re t_.Shared.im), .d (.int .i64 t_.Most)]] ∧ new = []) := impl_Tie_ok_ok_fr0 false n t_ buses_ h
theorem impl_Tie_ok_ok_fr (n : Nat) (t_ : STie) (buses_ : Int) {r : Bool} (h : m_impl_Tie_ok n t_ buses_ = some r) : ACall prog true 125 [.ptr 0 0, .d (.int .i64 buses_)] [.box [.d (.int .i64 t_.A), .d (.int .i64 t_.B), .d (.cx .f32 t_.Own.re t_.Own.im), .d (.cx .f32 t_.Shared.re t_.Shared.im), .d (.int .i64 t_.Most)]] (fun v o new => v = .d (.bool r) ∧ o = [.box [.d (.int .i64 t_.A), .d (.int .i64 t_.B), .d (.cx .f32 t_.Own.re t_.Own.im), .d (.cx .f32 t_.Shared.re t_.Shared.im), .d (.int .i64 t_.Most)]] ∧ new = []) := impl_Tie_ok_ok_fr0 true n t_ buses_ h

def m_impl_ValidGrid_1 (n : Nat) (t_ : STie) (a1_ : Int) : Option Bool :=
  (m_impl_Tie_ok n t_ a1_).bind fun x2 =>
  some (!x2)
theorem impl_ValidGrid_1_ok_fr0 (fr : Bool) (n : Nat) (t_ : STie) (a1_ : Int) {r : Bool} (h : m_impl_ValidGrid_1 n t_ a1_ = some r) : ACall prog fr 124 [.agg [.d (.int .i64 t_.A), .d (.int .i64 t_.B), .d (.cx .f32 t_.Own.re t_.Own.im), .d (.cx .f32 t_.Shared.re t_.Shared.im), .d (.int .i64 t_.Most)], .ptr 0 0] [.box [.d (.int .i64 a1_)]] (fun v o new => v = .d (.bool r) ∧ o = [.box [.d (.int .i64 a1_)]] ∧ new = []) := by
  refine acall_of_aw hτ func124 rfl (by simp) (by simp) ?_
  unfold m_impl_ValidGrid_1 at h
  refine aw_seq ?_
  refine aw_region ?_
  refine awl_valH hτ rfl rfl rfl ?_
  refine awl_val hτ rfl rfl rfl ?_
  refine awl_nil ?_
  refine aw_seq ?_
  refine aw_region ?_
  refine awl_val hτ rfl rfl rfl ?_
  refine bnd_elim h fun x2 hx2 h => ?_
  refine awl_callP hτ false [1] rfl rfl rfl (enterOk func125 rfl rfl) rfl rfl (by simp) ⟨trivial, trivial, trivial⟩ (by repeat' first | exact trivial | refine ⟨?_, ?_⟩) (impl_Tie_ok_ok n t_ a1_ hx2) ?_
  rintro r0 o0 n0 ⟨rfl, rfl, rfl⟩ -
  refine awl_val hτ rfl rfl rfl ?_
  refine awl_val hτ rfl rfl rfl ?_
  refine awl_nil ?_
  refine aw_weak (weak_ofP [0] (l := [(3, .d (.bool (!x2)))]) (objs := [.box [.d (.int .i64 a1_)]]) rfl (by simp) rfl (by repeat' first | exact trivial | refine ⟨?_, ?_⟩) ⟨rfl, trivial, trivial⟩) ?_
  refine aw_ret ?_
  have hr := Option.some.inj h
  subst hr
  exact ret_objs (.inr rfl) [] (objs' := [.box [.d (.int .i64 a1_)]]) (new := []) rfl (by simp) (by simp) rfl (by repeat' first | exact trivial | refine ⟨?_, ?_⟩) rfl rfl (by repeat' first | exact trivial | refine ⟨?_, ?_⟩) (fun _ => ⟨by simp [V.flat, V.flatA, V.flatC, D.flat], (flat_cons (by simp [AObj.flat, V.flatC, D.flat]) flat_nil)⟩) ⟨rfl, rfl, rfl⟩
theorem impl_ValidGrid_1_ok (n : Nat) (t_ : STie) (a1_ : Int) {r : Bool} (h : m_impl_ValidGrid_1 n t_ a1_ = some r) : ACall prog false 124 [.agg [.d (.int .i64 t_.A), .d (.int .i64 t_.B), .d (.cx .f32 t_.Own.re t_.Own.im), .d (.cx .f32 t_.Shared.re t_.Shared.im), .d (.int .i64 t_.Most)], .ptr 0 0] [.box [.d (.int .i64 a1_)]] (fun v o new => v = .d (.bool r) ∧ o = [.box [.d (.int .i64 a1_)]] ∧ new = []) := impl_ValidGrid_1_ok_fr0 false n t_ a1_ h
theorem impl_ValidGrid_1_ok_fr (n : Nat) (t_ : STie) (a1_ : Int) {r : Bool} (h : m_impl_ValidGrid_1 n t_ a1_ = some r) : ACall prog true 124 [.agg [.d (.int .i64 t_.A), .d (.int .i64 t_.B), .d (.cx .f32 t_.Own.re t_.Own.im), .d (.cx .f32 t_.Shared.re t_.Shared.im), .d (.int .i64 t_.Most)], .ptr 0 0] [.box [.d (.int .i64 a1_)]] (fun v o new => v = .d (.bool r) ∧ o = [.box [.d (.int .i64 a1_)]] ∧ new = []) := impl_ValidGrid_1_ok_fr0 true n t_ a1_ h

def m_slices_IndexFunc_l1 (n : Nat) (s_ : List STie) (c_ : Int) : Nat → Int → Option Int
  | 0, _ => none
  | m13 + 1, v9 =>
    if v9 < (s_.length : Int) then
      (getI s_ v9).bind fun x18 =>
      (m_impl_ValidGrid_1 n x18 c_).bind fun x19 =>
      if x19 = true then
        some v9
      else
        (m_slices_IndexFunc_l1 n s_ c_ m13) (w64 (v9 + (1 : Int)))
    else
      some (-1 : Int)
def m_slices_IndexFunc (n : Nat) (s_ : List STie) (c_ : Int) : Option Int :=
  m_slices_IndexFunc_l1 n s_ c_ n (0 : Int)
theorem slices_IndexFunc_ok_fr0 (fr : Bool) (n : Nat) (s_ : List STie) (c_ : Int) {r : Int} (h : m_slices_IndexFunc n s_ c_ = some r) : ACall prog fr 156 [.d (.sl false (s_.map eSTie)), .func 124 [] [.ptr 0 0]] [.box [.d (.int .i64 c_)]] (fun v o new => v = .d (.int .i64 r) ∧ o = [.box [.d (.int .i64 c_)]] ∧ new = []) := by
  refine acall_of_aw hτ func156 rfl (by simp) (by simp) ?_
  unfold m_slices_IndexFunc at h
  refine aw_seq ?_
  refine aw_region ?_
  refine awl_val hτ rfl rfl rfl ?_
  refine awl_nil ?_
  refine aw_seq ?_
  refine aw_seq ?_
  refine aw_region ?_
  refine awl_val hτ rfl rfl rfl ?_
  refine awl_val hτ (v := .d (.int .i64 (s_.length : Int))) rfl rfl (Eq.trans rfl (or_len (f := eSTie) s_)) ?_
  refine awl_val hτ rfl rfl rfl ?_
  refine awl_nil ?_
  refine aw_block ?_
  refine aw_loop (ι := Nat × Int) (fun (m13, v9) => St.of [(0, .d (.sl false (s_.map eSTie))), (1, .func 124 [] [.ptr 0 0]), (7, .d (.int .i64 (s_.length : Int))), (8, .d (.int .i64 v9))] [.box [.d (.int .i64 c_)]] f156.ntmps 1) (fun (m13, v9) => m_slices_IndexFunc_l1 n s_ c_ m13 v9 = some r) (fun x => x.1) (n, (0 : Int)) h (weak_ofP [0] (l := [(0, .d (.sl false (s_.map eSTie))), (1, .func 124 [] [.ptr 0 0]), (7, .d (.int .i64 (s_.length : Int))), (8, .d (.int .i64 (0 : Int)))]) (objs := [.box [.d (.int .i64 c_)]]) rfl (by simp) rfl (by repeat' first | exact trivial | refine ⟨?_, ?_⟩) ⟨rfl, trivial, rfl, (by repeat' first | exact trivial | refine ⟨?_, ?_⟩), rfl, trivial, rfl, trivial, trivial⟩) ?_
  rintro ⟨m13, v9⟩ h
  replace h : m_slices_IndexFunc_l1 n s_ c_ m13 v9 = some r := h
  rcases m13 with _ | m13
  · rw [m_slices_IndexFunc_l1] at h; cases h
  rw [m_slices_IndexFunc_l1] at h
  refine aw_seq ?_
  refine aw_region ?_
  refine awl_val hτ rfl rfl rfl ?_
  refine awl_nil ?_
  refine aw_seq ?_
  refine aw_cond rfl (fun hc15 => ?_) (fun hc15 => ?_)
  · have h := if_t h hc15
    refine aw_skip ?_
    refine aw_seq ?_
    refine aw_block ?_
    refine aw_seq ?_
    refine aw_region ?_
    refine awl_val hτ rfl rfl rfl ?_
    refine awl_val hτ rfl rfl rfl ?_
    refine awl_nil ?_
    refine aw_seq ?_
    refine aw_region ?_
    refine awl_val hτ rfl rfl rfl ?_
    refine awl_val hτ rfl rfl rfl ?_
    refine awl_val hτ rfl rfl rfl ?_
    refine bnd_elim h fun x18 hx18 h => ?_
    refine awl_elem hτ rfl rfl rfl (getI_some hx18).1 (map_getI hx18) rfl ?_
    refine awl_val hτ rfl rfl rfl ?_
    refine bnd_elim h fun x19 hx19 h => ?_
    refine awl_callP hτ false [0] rfl rfl rfl (enterOk func124 rfl rfl) rfl rfl (by simp) ⟨(by repeat' first | exact trivial | refine ⟨?_, ?_⟩), trivial, trivial⟩ (by repeat' first | exact trivial | refine ⟨?_, ?_⟩) (impl_ValidGrid_1_ok n x18 c_ hx19) ?_
    rintro r0 o0 n0 ⟨rfl, rfl, rfl⟩ -
    refine awl_nil ?_
    refine aw_weak (weak_ofP [0] (l := [(0, .d (.sl false (s_.map eSTie))), (1, .func 124 [] [.ptr 0 0]), (5, .d (.int .i64 v9)), (7, .d (.int .i64 (s_.length : Int))), (8, .d (.int .i64 v9)), (16, .d (.bool x19))]) (objs := [.box [.d (.int .i64 c_)]]) rfl (by simp) rfl (by repeat' first | exact trivial | refine ⟨?_, ?_⟩) ⟨rfl, trivial, rfl, (by repeat' first | exact trivial | refine ⟨?_, ?_⟩), rfl, trivial, rfl, trivial, rfl, trivial, rfl, trivial, trivial⟩) ?_
    refine aw_cond rfl (fun hc20 => ?_) (fun hc20 => ?_)
    · have h := if_bt h hc20
      refine aw_seq ?_
      refine aw_region ?_
      refine awl_val hτ rfl rfl rfl ?_
      refine awl_val hτ rfl rfl rfl ?_
      refine awl_nil ?_
      refine aw_weak (weak_ofP [0] (l := [(4, .d (.int .i64 v9))]) (objs := [.box [.d (.int .i64 c_)]]) rfl (by simp) rfl (by repeat' first | exact trivial | refine ⟨?_, ?_⟩) ⟨rfl, trivial, trivial⟩) ?_
      refine aw_ret ?_
      have hr := Option.some.inj h
      subst hr
      exact ret_objs (.inr rfl) [] (objs' := [.box [.d (.int .i64 c_)]]) (new := []) rfl (by simp) (by simp) rfl (by repeat' first | exact trivial | refine ⟨?_, ?_⟩) rfl rfl (by repeat' first | exact trivial | refine ⟨?_, ?_⟩) (fun _ => ⟨by simp [V.flat, V.flatA, V.flatC, D.flat], (flat_cons (by simp [AObj.flat, V.flatC, D.flat]) flat_nil)⟩) ⟨rfl, rfl, rfl⟩
    · have h := if_bf h hc20
      refine aw_skip ?_
      refine aw_region ?_
      refine awl_val hτ rfl rfl rfl ?_
      refine awl_val hτ rfl rfl rfl ?_
      refine awl_nil ?_
      exact ⟨(m13, (w64 (v9 + (1 : Int)))), h, Nat.lt_succ_self m13, (weak_ofP [0] (l := [(0, .d (.sl false (s_.map eSTie))), (1, .func 124 [] [.ptr 0 0]), (7, .d (.int .i64 (s_.length : Int))), (8, .d (.int .i64 (w64 (v9 + (1 : Int)))))]) (objs := [.box [.d (.int .i64 c_)]]) rfl (by simp) rfl (by repeat' first | exact trivial | refine ⟨?_, ?_⟩) ⟨rfl, trivial, rfl, (by repeat' first | exact trivial | refine ⟨?_, ?_⟩), rfl, trivial, rfl, trivial, trivial⟩)⟩
  · have h := if_f h hc15
    refine aw_exit ?_
    refine aw_seq ?_
    refine aw_region ?_
    refine awl_val hτ rfl rfl rfl ?_
    refine awl_nil ?_
    refine aw_weak (weak_ofP [0] (l := [(4, .d (.int .i64 (-1 : Int)))]) (objs := [.box [.d (.int .i64 c_)]]) rfl (by simp) rfl (by repeat' first | exact trivial | refine ⟨?_, ?_⟩) ⟨rfl, trivial, trivial⟩) ?_
    refine aw_ret ?_
    have hr := Option.some.inj h
    subst hr
    exact ret_objs (.inr rfl) [] (objs' := [.box [.d (.int .i64 c_)]]) (new := []) rfl (by simp) (by simp) rfl (by repeat' first | exact trivial | refine ⟨?_, ?_⟩) rfl rfl (by repeat' first | exact trivial | refine ⟨?_, ?_⟩) (fun _ => ⟨by simp [V.flat, V.flatA, V.flatC, D.flat], (flat_cons (by simp [AObj.flat, V.flatC, D.flat]) flat_nil)⟩) ⟨rfl, rfl, rfl⟩
theorem slices_IndexFunc_ok (n : Nat) (s_ : List STie) (c_ : Int) {r : Int} (h : m_slices_IndexFunc n s_ c_ = some r) : ACall prog false 156 [.d (.sl false (s_.map eSTie)), .func 124 [] [.ptr 0 0]] [.box [.d (.int .i64 c_)]] (fun v o new => v = .d (.int .i64 r) ∧ o = [.box [.d (.int .i64 c_)]] ∧ new = []) := slices_IndexFunc_ok_fr0 false n s_ c_ h
theorem slices_IndexFunc_ok_fr (n : Nat) (s_ : List STie) (c_ : Int) {r : Int} (h : m_slices_IndexFunc n s_ c_ = some r) : ACall prog true 156 [.d (.sl false (s_.map eSTie)), .func 124 [] [.ptr 0 0]] [.box [.d (.int .i64 c_)]] (fun v o new => v = .d (.int .i64 r) ∧ o = [.box [.d (.int .i64 c_)]] ∧ new = []) := slices_IndexFunc_ok_fr0 true n s_ c_ h

def m_slices_ContainsFunc (n : Nat) (s_ : List STie) (c_ : Int) : Option Bool :=
  (m_slices_IndexFunc n s_ c_).bind fun x2 =>
  some (decide (x2 ≥ (0 : Int)))
theorem slices_ContainsFunc_ok_fr0 (fr : Bool) (n : Nat) (s_ : List STie) (c_ : Int) {r : Bool} (h : m_slices_ContainsFunc n s_ c_ = some r) : ACall prog fr 123 [.d (.sl false (s_.map eSTie)), .func 124 [] [.ptr 0 0]] [.box [.d (.int .i64 c_)]] (fun v o new => v = .d (.bool r) ∧ o = [.box [.d (.int .i64 c_)]] ∧ new = []) := by
  refine acall_of_aw hτ func123 rfl (by simp) (by simp) ?_
  unfold m_slices_ContainsFunc at h
  refine aw_seq ?_
  refine aw_region ?_
  refine awl_val hτ rfl rfl rfl ?_
  refine awl_nil ?_
  refine aw_seq ?_
  refine aw_region ?_
  refine awl_val hτ rfl rfl rfl ?_
  refine awl_val hτ rfl rfl rfl ?_
  refine bnd_elim h fun x2 hx2 h => ?_
  refine awl_callP hτ false [0] rfl rfl rfl (enterOk func156 rfl rfl) rfl rfl (by simp) ⟨trivial, (by repeat' first | exact trivial | refine ⟨?_, ?_⟩), trivial⟩ (by repeat' first | exact trivial | refine ⟨?_, ?_⟩) (slices_IndexFunc_ok n s_ c_ hx2) ?_
  rintro r0 o0 n0 ⟨rfl, rfl, rfl⟩ -
  refine awl_val hτ rfl rfl rfl ?_
  refine awl_val hτ rfl rfl rfl ?_
  refine awl_nil ?_
  refine aw_weak (weak_ofP [0] (l := [(4, .d (.bool (decide (x2 ≥ (0 : Int)))))]) (objs := [.box [.d (.int .i64 c_)]]) rfl (by simp) rfl (by repeat' first | exact trivial | refine ⟨?_, ?_⟩) ⟨rfl, trivial, trivial⟩) ?_
  refine aw_ret ?_
  have hr := Option.some.inj h
  subst hr
  exact ret_objs (.inr rfl) [] (objs' := [.box [.d (.int .i64 c_)]]) (new := []) rfl (by simp) (by simp) rfl (by repeat' first | exact trivial | refine ⟨?_, ?_⟩) rfl rfl (by repeat' first | exact trivial | refine ⟨?_, ?_⟩) (fun _ => ⟨by simp [V.flat, V.flatA, V.flatC, D.flat], (flat_cons (by simp [AObj.flat, V.flatC, D.flat]) flat_nil)⟩) ⟨rfl, rfl, rfl⟩
theorem slices_ContainsFunc_ok (n : Nat) (s_ : List STie) (c_ : Int) {r : Bool} (h : m_slices_ContainsFunc n s_ c_ = some r) : ACall prog false 123 [.d (.sl false (s_.map eSTie)), .func 124 [] [.ptr 0 0]] [.box [.d (.int .i64 c_)]] (fun v o new => v = .d (.bool r) ∧ o = [.box [.d (.int .i64 c_)]] ∧ new = []) := slices_ContainsFunc_ok_fr0 false n s_ c_ h
theorem slices_ContainsFunc_ok_fr (n : Nat) (s_ : List STie) (c_ : Int) {r : Bool} (h : m_slices_ContainsFunc n s_ c_ = some r) : ACall prog true 123 [.d (.sl false (s_.map eSTie)), .func 124 [] [.ptr 0 0]] [.box [.d (.int .i64 c_)]] (fun v o new => v = .d (.bool r) ∧ o = [.box [.d (.int .i64 c_)]] ∧ new = []) := slices_ContainsFunc_ok_fr0 true n s_ c_ h

def m_impl_ValidGrid (n : Nat) (g_ : SGrid) : Option Bool :=
  (m_impl_ValidFeeder n g_.Feeder).bind fun x7 =>
  if x7 = true then
    if (g_.Ties.length : Int) ≤ (6 : Int) then
      (m_slices_ContainsFunc n g_.Ties (g_.Feeder.Buses.length : Int)).bind fun x10 =>
      some (!x10)
    else
      some false
  else
    some false
theorem impl_ValidGrid_ok_fr0 (fr : Bool) (n : Nat) (g_ : SGrid) {r : Bool} (h : m_impl_ValidGrid n g_ = some r) : ACall prog fr 83 [.agg [.d (.cx .f32 g_.Feeder.Source.A.re g_.Feeder.Source.A.im), .d (.cx .f32 g_.Feeder.Source.B.re g_.Feeder.Source.B.im), .d (.cx .f32 g_.Feeder.Source.C.re g_.Feeder.Source.C.im), .d (.sl false (g_.Feeder.Buses.map eSBus)), .d (.sl false (g_.Ties.map eSTie))]] [] (fun v o new => v = .d (.bool r) ∧ o = [] ∧ new = []) := by
  refine acall_of_aw hτ func83 rfl (by simp) (by simp) ?_
  unfold m_impl_ValidGrid at h
  refine aw_seq ?_
  refine aw_region ?_
  refine awl_valH hτ rfl rfl rfl ?_
  refine awl_val hτ rfl rfl rfl ?_
  refine awl_nil ?_
  refine aw_seq ?_
  refine aw_region ?_
  refine awl_val hτ rfl rfl rfl ?_
  refine awl_val hτ rfl rfl rfl ?_
  refine awl_val hτ rfl rfl rfl ?_
  refine awl_val hτ (v := .d (.int .i64 (g_.Feeder.Buses.length : Int))) rfl rfl (Eq.trans rfl (or_len (f := eSBus) g_.Feeder.Buses)) ?_
  refine awl_valH hτ rfl rfl rfl ?_
  refine awl_valH hτ rfl rfl rfl ?_
  refine awl_nil ?_
  refine aw_seq ?_
  refine aw_weak (weak_ofP [0, 1] (l := [(1, .ptr 0 0), (3, .ptr 1 0)]) (objs := [.box [.d (.cx .f32 g_.Feeder.Source.A.re g_.Feeder.Source.A.im), .d (.cx .f32 g_.Feeder.Source.B.re g_.Feeder.Source.B.im), .d (.cx .f32 g_.Feeder.Source.C.re g_.Feeder.Source.C.im), .d (.sl false (g_.Feeder.Buses.map eSBus)), .d (.sl false (g_.Ties.map eSTie))], .box [.d (.int .i64 (g_.Feeder.Buses.length : Int))]]) rfl (by simp) rfl (by repeat' first | exact trivial | refine ⟨?_, ?_⟩) ⟨rfl, trivial, rfl, trivial, trivial⟩) ?_
  refine aw_region ?_
  refine awl_val hτ rfl rfl rfl ?_
  refine awl_val hτ rfl rfl rfl ?_
  refine bnd_elim h fun x7 hx7 h => ?_
  refine awl_callP hτ false [] rfl rfl rfl (enterOk func63 rfl rfl) rfl rfl (by simp) ⟨(by repeat' first | exact trivial | refine ⟨?_, ?_⟩), trivial⟩ (by repeat' first | exact trivial | refine ⟨?_, ?_⟩) (impl_ValidFeeder_ok n g_.Feeder hx7) ?_
  rintro r0 o0 n0 ⟨rfl, rfl, rfl⟩ -
  refine awl_val hτ rfl rfl rfl ?_
  refine awl_split 11 rfl (fun hb8 => ?_) (fun hb8 => ?_)
  · have h := if_bt h hb8
    refine awl_val hτ rfl rfl rfl ?_
    refine awl_val hτ rfl rfl rfl ?_
    refine awl_val hτ (v := .d (.int .i64 (g_.Ties.length : Int))) rfl rfl (Eq.trans rfl (or_len (f := eSTie) g_.Ties)) ?_
    refine awl_val hτ rfl rfl rfl ?_
    refine awl_val hτ rfl rfl rfl ?_
    refine awl_val hτ rfl rfl rfl ?_
    refine awl_split 17 rfl (fun hb9 => ?_) (fun hb9 => ?_)
    · have h := if_t h hb9
      refine awl_val hτ rfl rfl rfl ?_
      refine awl_val hτ rfl rfl rfl ?_
      refine awl_weak (weak_ofP [1] (l := [(3, .ptr 0 0), (17, .d (.bool true)), (19, .d (.sl false (g_.Ties.map eSTie)))]) (objs := [.box [.d (.int .i64 (g_.Feeder.Buses.length : Int))]]) rfl (by simp) rfl (by repeat' first | exact trivial | refine ⟨?_, ?_⟩) ⟨rfl, trivial, rfl, trivial, rfl, trivial, trivial⟩) ?_
      refine awl_val hτ rfl rfl rfl ?_
      refine bnd_elim h fun x10 hx10 h => ?_
      refine awl_callP hτ false [0] rfl rfl rfl (enterOk func123 rfl rfl) rfl rfl (by simp) ⟨trivial, (by repeat' first | exact trivial | refine ⟨?_, ?_⟩), trivial⟩ (by repeat' first | exact trivial | refine ⟨?_, ?_⟩) (slices_ContainsFunc_ok n g_.Ties (g_.Feeder.Buses.length : Int) hx10) ?_
      rintro r0 o0 n0 ⟨rfl, rfl, rfl⟩ -
      refine awl_val hτ rfl rfl rfl ?_
      refine awl_val hτ rfl rfl rfl ?_
      refine awl_val hτ rfl rfl rfl ?_
      refine awl_nil ?_
      refine aw_weak (weak_ofP [] (l := [(2, .d (.bool (!x10)))]) (objs := []) rfl (by simp) rfl (by repeat' first | exact trivial | refine ⟨?_, ?_⟩) ⟨rfl, trivial, trivial⟩) ?_
      refine aw_ret ?_
      have hr := Option.some.inj h
      subst hr
      exact ret_objs (.inr rfl) [] (objs' := []) (new := []) rfl (by simp) (by simp) rfl (by repeat' first | exact trivial | refine ⟨?_, ?_⟩) rfl rfl (by repeat' first | exact trivial | refine ⟨?_, ?_⟩) (fun _ => ⟨by simp [V.flat, V.flatA, V.flatC, D.flat], flat_nil⟩) ⟨rfl, rfl, rfl⟩
    · have h := if_f h hb9
      refine awl_skip rfl rfl ?_
      refine awl_skip rfl rfl ?_
      refine awl_weak (weak_ofP [1] (l := [(3, .ptr 0 0), (17, .d (.bool false)), (19, .und)]) (objs := [.box [.d (.int .i64 (g_.Feeder.Buses.length : Int))]]) rfl (by simp) rfl (by repeat' first | exact trivial | refine ⟨?_, ?_⟩) ⟨rfl, trivial, rfl, trivial, rfl, trivial, trivial⟩) ?_
      refine awl_skip rfl rfl ?_
      refine awl_skip rfl rfl ?_
      refine awl_skip rfl rfl ?_
      refine awl_val hτ rfl rfl rfl ?_
      refine awl_val hτ rfl rfl rfl ?_
      refine awl_nil ?_
      refine aw_weak (weak_ofP [] (l := [(2, .d (.bool false))]) (objs := []) rfl (by simp) rfl (by repeat' first | exact trivial | refine ⟨?_, ?_⟩) ⟨rfl, trivial, trivial⟩) ?_
      refine aw_ret ?_
      have hr := Option.some.inj h
      subst hr
      exact ret_objs (.inr rfl) [] (objs' := []) (new := []) rfl (by simp) (by simp) rfl (by repeat' first | exact trivial | refine ⟨?_, ?_⟩) rfl rfl (by repeat' first | exact trivial | refine ⟨?_, ?_⟩) (fun _ => ⟨by simp [V.flat, V.flatA, V.flatC, D.flat], flat_nil⟩) ⟨rfl, rfl, rfl⟩
  · have h := if_bf h hb8
    refine awl_skip rfl rfl ?_
    refine awl_skip rfl rfl ?_
    refine awl_skip rfl rfl ?_
    refine awl_skip rfl rfl ?_
    refine awl_val hτ rfl rfl rfl ?_
    refine awl_val hτ rfl rfl rfl ?_
    refine awl_skip rfl rfl ?_
    refine awl_skip rfl rfl ?_
    refine awl_weak (weak_ofP [1] (l := [(3, .ptr 0 0), (17, .d (.bool false)), (19, .und)]) (objs := [.box [.d (.int .i64 (g_.Feeder.Buses.length : Int))]]) rfl (by simp) rfl (by repeat' first | exact trivial | refine ⟨?_, ?_⟩) ⟨rfl, trivial, rfl, trivial, rfl, trivial, trivial⟩) ?_
    refine awl_skip rfl rfl ?_
    refine awl_skip rfl rfl ?_
    refine awl_skip rfl rfl ?_
    refine awl_val hτ rfl rfl rfl ?_
    refine awl_val hτ rfl rfl rfl ?_
    refine awl_nil ?_
    refine aw_weak (weak_ofP [] (l := [(2, .d (.bool false))]) (objs := []) rfl (by simp) rfl (by repeat' first | exact trivial | refine ⟨?_, ?_⟩) ⟨rfl, trivial, trivial⟩) ?_
    refine aw_ret ?_
    have hr := Option.some.inj h
    subst hr
    exact ret_objs (.inr rfl) [] (objs' := []) (new := []) rfl (by simp) (by simp) rfl (by repeat' first | exact trivial | refine ⟨?_, ?_⟩) rfl rfl (by repeat' first | exact trivial | refine ⟨?_, ?_⟩) (fun _ => ⟨by simp [V.flat, V.flatA, V.flatC, D.flat], flat_nil⟩) ⟨rfl, rfl, rfl⟩
theorem impl_ValidGrid_ok (n : Nat) (g_ : SGrid) {r : Bool} (h : m_impl_ValidGrid n g_ = some r) : ACall prog false 83 [.agg [.d (.cx .f32 g_.Feeder.Source.A.re g_.Feeder.Source.A.im), .d (.cx .f32 g_.Feeder.Source.B.re g_.Feeder.Source.B.im), .d (.cx .f32 g_.Feeder.Source.C.re g_.Feeder.Source.C.im), .d (.sl false (g_.Feeder.Buses.map eSBus)), .d (.sl false (g_.Ties.map eSTie))]] [] (fun v o new => v = .d (.bool r) ∧ o = [] ∧ new = []) := impl_ValidGrid_ok_fr0 false n g_ h
theorem impl_ValidGrid_ok_fr (n : Nat) (g_ : SGrid) {r : Bool} (h : m_impl_ValidGrid n g_ = some r) : ACall prog true 83 [.agg [.d (.cx .f32 g_.Feeder.Source.A.re g_.Feeder.Source.A.im), .d (.cx .f32 g_.Feeder.Source.B.re g_.Feeder.Source.B.im), .d (.cx .f32 g_.Feeder.Source.C.re g_.Feeder.Source.C.im), .d (.sl false (g_.Feeder.Buses.map eSBus)), .d (.sl false (g_.Ties.map eSTie))]] [] (fun v o new => v = .d (.bool r) ∧ o = [] ∧ new = []) := impl_ValidGrid_ok_fr0 true n g_ h

def m_impl_bytesOf_j1 (n : Nat) (v17 : List Int) : Option Str :=
  some (chars v17)
def m_impl_bytesOf_l2 (n : Nat) (many_ : Int) : Nat → Int → List Int → Int → Option Str
  | 0, _, _, _ => none
  | m27 + 1, v20, v21, v22 =>
    if v22 < many_ then
      grd (room (v21.length + 1) 1) <|
      (m_impl_bytesOf_l2 n many_ m27) (v20.fdiv (2 ^ min (8 : Int).toNat (IntKind.bits .i64))) (v21 ++ [(IntKind.wrap .u8 (v20))]) (w64 (v22 + (1 : Int)))
    else
      m_impl_bytesOf_j1 n v21
def m_impl_bytesOf (n : Nat) (n_ : Int) (many_ : Int) : Option Str :=
  m_impl_bytesOf_l2 n many_ n n_ ([] : List Int) (0 : Int)
theorem impl_bytesOf_ok_fr0 (fr : Bool) (n : Nat) (n_ : Int) (many_ : Int) {r : Str} (h : m_impl_bytesOf n n_ many_ = some r) : ACall prog fr 44 [.d (.int .i64 n_), .d (.int .i64 many_)] [] (fun v o new => v = .d (.str (bstr r)) ∧ o = [] ∧ new = []) := by
  refine acall_of_aw hτ func44 rfl (by simp) (by simp) ?_
  unfold m_impl_bytesOf at h
  refine aw_seq ?_
  refine aw_region ?_
  refine awl_val hτ rfl rfl rfl ?_
  refine awl_nil ?_
  refine aw_seq ?_
  refine aw_region ?_
  refine awl_valH hτ rfl rfl rfl ?_
  refine awl_val hτ rfl rfl rfl ?_
  refine awl_nil ?_
  refine aw_hk1 (ι := List Int) (fun v17 => St.of [(5, .row 0 v17.length 0 v17.length)] [.row 1 (v17.map eIntu8)] f44.ntmps 0) (fun v17 => m_impl_bytesOf_j1 n v17 = some r) ?_ (fun hk18 => ?_)
  · rintro v17 h
    replace h : m_impl_bytesOf_j1 n v17 = some r := h
    unfold m_impl_bytesOf_j1 at h
    refine aw_seq ?_
    refine aw_region ?_
    refine awl_val hτ rfl rfl rfl ?_
    refine awl_x rfl rfl (x_b2s hτ (f := eIntu8) (l := v17) rfl rfl rfl rfl rfl rfl rfl (fun _ => rfl) (slice_row v17 rfl rfl) ⟨len_map _, by omega⟩) ?_
    refine awl_val hτ rfl rfl rfl ?_
    refine awl_nil ?_
    refine aw_weak (weak_ofP [] (l := [(4, .d (.str (bstr (chars v17))))]) (objs := []) rfl (by simp) rfl (by repeat' first | exact trivial | refine ⟨?_, ?_⟩) ⟨rfl, trivial, trivial⟩) ?_
    refine aw_ret ?_
    have hr := Option.some.inj h
    subst hr
    exact ret_objs (.inr rfl) [] (objs' := []) (new := []) rfl (by simp) (by simp) rfl (by repeat' first | exact trivial | refine ⟨?_, ?_⟩) rfl rfl (by repeat' first | exact trivial | refine ⟨?_, ?_⟩) (fun _ => ⟨by simp [V.flat, V.flatA, V.flatC, D.flat], flat_nil⟩) ⟨rfl, rfl, rfl⟩
  · refine aw_seq ?_
    refine aw_seq ?_
    refine aw_region ?_
    refine awl_val hτ rfl rfl rfl ?_
    refine awl_val hτ rfl rfl rfl ?_
    refine awl_nil ?_
    refine aw_block ?_
    refine aw_loop (ι := Nat × Int × List Int × Int) (fun (m27, v20, v21, v22) => St.of [(0, .d (.int .i64 v20)), (5, .row 0 v21.length 0 v21.length), (7, .d (.int .i64 many_)), (8, .d (.int .i64 v22))] [.row 1 (v21.map eIntu8)] f44.ntmps 0) (fun (m27, v20, v21, v22) => m_impl_bytesOf_l2 n many_ m27 v20 v21 v22 = some r) (fun x => x.1) (n, n_, ([] : List Int), (0 : Int)) h (weak_ofP [0] (l := [(0, .d (.int .i64 n_)), (5, .row 0 (([] : List Int).length) 0 (([] : List Int).length)), (7, .d (.int .i64 many_)), (8, .d (.int .i64 (0 : Int)))]) (objs := [.row 1 (([] : List Int).map eIntu8)]) rfl (by simp) rfl (by repeat' first | exact trivial | refine ⟨?_, ?_⟩) ⟨rfl, trivial, rfl, trivial, rfl, trivial, rfl, trivial, trivial⟩) ?_
    rintro ⟨m27, v20, v21, v22⟩ h
    replace h : m_impl_bytesOf_l2 n many_ m27 v20 v21 v22 = some r := h
    rcases m27 with _ | m27
    · rw [m_impl_bytesOf_l2] at h; cases h
    rw [m_impl_bytesOf_l2] at h
    refine aw_seq ?_
    refine aw_region ?_
    refine awl_val hτ rfl rfl rfl ?_
    refine awl_nil ?_
    refine aw_seq ?_
    refine aw_cond rfl (fun hc29 => ?_) (fun hc29 => ?_)
    · have h := if_t h hc29
      refine aw_skip ?_
      refine aw_seq ?_
      refine aw_block ?_
      refine aw_seq ?_
      refine aw_region ?_
      refine awl_val hτ rfl rfl rfl ?_
      refine awl_val hτ rfl rfl rfl ?_
      refine awl_val hτ rfl rfl rfl ?_
      refine awl_valH hτ rfl rfl rfl ?_
      refine grd_elim h fun hg30 h => ?_
      refine awl_needH hτ rfl rfl (Eq.trans rfl (or_append (f := eIntu8) v21 [(IntKind.wrap .u8 (v20))] rfl)) ⟨⟨rfl, Nat.le_of_ble_eq_true rfl⟩, len_map _, rfl, rfl, hg30, by decide, (all1 rfl)⟩ ?_
      refine awl_val hτ rfl rfl rfl ?_
      refine awl_nil ?_
      refine aw_weak (weak_ofP [0] (l := [(0, .d (.int .i64 v20)), (5, .row 0 ((v21 ++ [(IntKind.wrap .u8 (v20))]).length) 0 ((v21 ++ [(IntKind.wrap .u8 (v20))]).length)), (7, .d (.int .i64 many_)), (8, .d (.int .i64 v22))]) (objs := [.row 1 ((v21 ++ [(IntKind.wrap .u8 (v20))]).map eIntu8)]) rfl (by simp) rfl (by repeat' first | exact trivial | refine ⟨?_, ?_⟩) ⟨rfl, trivial, rfl, trivial, rfl, trivial, rfl, trivial, trivial⟩) ?_
      refine aw_region ?_
      refine awl_val hτ rfl rfl rfl ?_
      refine awl_need hτ rfl rfl rfl (by decide) ?_
      refine awl_val hτ rfl rfl rfl ?_
      refine awl_nil ?_
      refine aw_region ?_
      refine awl_val hτ rfl rfl rfl ?_
      refine awl_val hτ rfl rfl rfl ?_
      refine awl_nil ?_
      exact ⟨(m27, (v20.fdiv (2 ^ min (8 : Int).toNat (IntKind.bits .i64))), (v21 ++ [(IntKind.wrap .u8 (v20))]), (w64 (v22 + (1 : Int)))), h, Nat.lt_succ_self m27, (weak_ofP [0] (l := [(0, .d (.int .i64 (v20.fdiv (2 ^ min (8 : Int).toNat (IntKind.bits .i64))))), (5, .row 0 ((v21 ++ [(IntKind.wrap .u8 (v20))]).length) 0 ((v21 ++ [(IntKind.wrap .u8 (v20))]).length)), (7, .d (.int .i64 many_)), (8, .d (.int .i64 (w64 (v22 + (1 : Int)))))]) (objs := [.row 1 ((v21 ++ [(IntKind.wrap .u8 (v20))]).map eIntu8)]) rfl (by simp) rfl (by repeat' first | exact trivial | refine ⟨?_, ?_⟩) ⟨rfl, trivial, rfl, trivial, rfl, trivial, rfl, trivial, trivial⟩)⟩
    · have h := if_f h hc29
      refine aw_exit ?_
      refine aw_weak (weak_ofP [0] (l := [(5, .row 0 v21.length 0 v21.length)]) (objs := [.row 1 (v21.map eIntu8)]) rfl (by simp) rfl (by repeat' first | exact trivial | refine ⟨?_, ?_⟩) ⟨rfl, trivial, trivial⟩) ?_
      exact hk18 v21 h
theorem impl_bytesOf_ok (n : Nat) (n_ : Int) (many_ : Int) {r : Str} (h : m_impl_bytesOf n n_ many_ = some r) : ACall prog false 44 [.d (.int .i64 n_), .d (.int .i64 many_)] [] (fun v o new => v = .d (.str (bstr r)) ∧ o = [] ∧ new = []) := impl_bytesOf_ok_fr0 false n n_ many_ h
theorem impl_bytesOf_ok_fr (n : Nat) (n_ : Int) (many_ : Int) {r : Str} (h : m_impl_bytesOf n n_ many_ = some r) : ACall prog true 44 [.d (.int .i64 n_), .d (.int .i64 many_)] [] (fun v o new => v = .d (.str (bstr r)) ∧ o = [] ∧ new = []) := impl_bytesOf_ok_fr0 true n n_ many_ h

def m_impl_isNaN (n : Nat) (x_ : Nat) : Option Bool :=
  some (fcmp .neq .f32 x_ x_)
theorem impl_isNaN_ok_fr0 (fr : Bool) (n : Nat) (x_ : Nat) {r : Bool} (h : m_impl_isNaN n x_ = some r) : ACall prog fr 176 [.d (.fl .f32 x_)] [] (fun v o new => v = .d (.bool r) ∧ o = [] ∧ new = []) := by
  refine acall_of_aw hτ func176 rfl (by simp) (by simp) ?_
  unfold m_impl_isNaN at h
  refine aw_seq ?_
  refine aw_region ?_
  refine awl_val hτ rfl rfl rfl ?_
  refine awl_nil ?_
  refine aw_seq ?_
  refine aw_region ?_
  refine awl_val hτ rfl rfl rfl ?_
  refine awl_val hτ rfl rfl rfl ?_
  refine awl_val hτ rfl rfl rfl ?_
  refine awl_val hτ rfl rfl rfl ?_
  refine awl_nil ?_
  refine aw_weak (weak_ofP [] (l := [(2, .d (.bool (fcmp .neq .f32 x_ x_)))]) (objs := []) rfl (by simp) rfl (by repeat' first | exact trivial | refine ⟨?_, ?_⟩) ⟨rfl, trivial, trivial⟩) ?_
  refine aw_ret ?_
  have hr := Option.some.inj h
  subst hr
  exact ret_objs (.inr rfl) [] (objs' := []) (new := []) rfl (by simp) (by simp) rfl (by repeat' first | exact trivial | refine ⟨?_, ?_⟩) rfl rfl (by repeat' first | exact trivial | refine ⟨?_, ?_⟩) (fun _ => ⟨by simp [V.flat, V.flatA, V.flatC, D.flat], flat_nil⟩) ⟨rfl, rfl, rfl⟩
theorem impl_isNaN_ok (n : Nat) (x_ : Nat) {r : Bool} (h : m_impl_isNaN n x_ = some r) : ACall prog false 176 [.d (.fl .f32 x_)] [] (fun v o new => v = .d (.bool r) ∧ o = [] ∧ new = []) := impl_isNaN_ok_fr0 false n x_ h
theorem impl_isNaN_ok_fr (n : Nat) (x_ : Nat) {r : Bool} (h : m_impl_isNaN n x_ = some r) : ACall prog true 176 [.d (.fl .f32 x_)] [] (fun v o new => v = .d (.bool r) ∧ o = [] ∧ new = []) := impl_isNaN_ok_fr0 true n x_ h

def m_impl_BitsOf (n : Nat) (x_ : Nat) : Option Int :=
  (m_impl_isNaN n x_).bind fun x4 =>
  if x4 = true then
    some (2143289344 : Int)
  else
    grd (isnan .f32 x_ = false) <|
    some (w64 ((x_ : Int)))
theorem impl_BitsOf_ok_fr0 (fr : Bool) (n : Nat) (x_ : Nat) {r : Int} (h : m_impl_BitsOf n x_ = some r) : ACall prog fr 158 [.d (.fl .f32 x_)] [] (fun v o new => v = .d (.int .i64 r) ∧ o = [] ∧ new = []) := by
  refine acall_of_aw hτ func158 rfl (by simp) (by simp) ?_
  unfold m_impl_BitsOf at h
  refine aw_seq ?_
  refine aw_region ?_
  refine awl_val hτ rfl rfl rfl ?_
  refine awl_nil ?_
  refine aw_seq ?_
  refine aw_seq ?_
  refine aw_region ?_
  refine awl_val hτ rfl rfl rfl ?_
  refine bnd_elim h fun x4 hx4 h => ?_
  refine awl_callP hτ false [] rfl rfl rfl (enterOk func176 rfl rfl) rfl rfl (by simp) ⟨trivial, trivial⟩ (by repeat' first | exact trivial | refine ⟨?_, ?_⟩) (impl_isNaN_ok n x_ hx4) ?_
  rintro r0 o0 n0 ⟨rfl, rfl, rfl⟩ -
  refine awl_nil ?_
  refine aw_cond rfl (fun hc5 => ?_) (fun hc5 => ?_)
  · have h := if_bt h hc5
    refine aw_seq ?_
    refine aw_region ?_
    refine awl_val hτ rfl rfl rfl ?_
    refine awl_nil ?_
    refine aw_weak (weak_ofP [] (l := [(2, .d (.int .i64 (2143289344 : Int)))]) (objs := []) rfl (by simp) rfl (by repeat' first | exact trivial | refine ⟨?_, ?_⟩) ⟨rfl, trivial, trivial⟩) ?_
    refine aw_ret ?_
    have hr := Option.some.inj h
    subst hr
    exact ret_objs (.inr rfl) [] (objs' := []) (new := []) rfl (by simp) (by simp) rfl (by repeat' first | exact trivial | refine ⟨?_, ?_⟩) rfl rfl (by repeat' first | exact trivial | refine ⟨?_, ?_⟩) (fun _ => ⟨by simp [V.flat, V.flatA, V.flatC, D.flat], flat_nil⟩) ⟨rfl, rfl, rfl⟩
  · have h := if_bf h hc5
    refine aw_skip ?_
    refine aw_seq ?_
    refine aw_region ?_
    refine awl_val hτ rfl rfl rfl ?_
    refine grd_elim h fun hg6 h => ?_
    refine awl_ext hτ rfl rfl rfl (ext173 hg6) ?_
    refine awl_val hτ rfl rfl rfl ?_
    refine awl_val hτ rfl rfl rfl ?_
    refine awl_nil ?_
    refine aw_weak (weak_ofP [] (l := [(2, .d (.int .i64 (w64 ((x_ : Int)))))]) (objs := []) rfl (by simp) rfl (by repeat' first | exact trivial | refine ⟨?_, ?_⟩) ⟨rfl, trivial, trivial⟩) ?_
    refine aw_ret ?_
    have hr := Option.some.inj h
    subst hr
    exact ret_objs (.inr rfl) [] (objs' := []) (new := []) rfl (by simp) (by simp) rfl (by repeat' first | exact trivial | refine ⟨?_, ?_⟩) rfl rfl (by repeat' first | exact trivial | refine ⟨?_, ?_⟩) (fun _ => ⟨by simp [V.flat, V.flatA, V.flatC, D.flat], flat_nil⟩) ⟨rfl, rfl, rfl⟩
theorem impl_BitsOf_ok (n : Nat) (x_ : Nat) {r : Int} (h : m_impl_BitsOf n x_ = some r) : ACall prog false 158 [.d (.fl .f32 x_)] [] (fun v o new => v = .d (.int .i64 r) ∧ o = [] ∧ new = []) := impl_BitsOf_ok_fr0 false n x_ h
theorem impl_BitsOf_ok_fr (n : Nat) (x_ : Nat) {r : Int} (h : m_impl_BitsOf n x_ = some r) : ACall prog true 158 [.d (.fl .f32 x_)] [] (fun v o new => v = .d (.int .i64 r) ∧ o = [] ∧ new = []) := impl_BitsOf_ok_fr0 true n x_ h

def m_impl_pairOf (n : Nat) (x_ : Cx) : Option Str :=
  (m_impl_BitsOf n x_.re).bind fun x6 =>
  (m_impl_bytesOf n x6 (4 : Int)).bind fun x7 =>
  (m_impl_BitsOf n x_.im).bind fun x8 =>
  (m_impl_bytesOf n x8 (4 : Int)).bind fun x9 =>
  grd (x7.length + x9.length ≤ 9223372036854775807) <|
  some (x7 ++ x9)
theorem impl_pairOf_ok_fr0 (fr : Bool) (n : Nat) (x_ : Cx) {r : Str} (h : m_impl_pairOf n x_ = some r) : ACall prog fr 129 [.d (.cx .f32 x_.re x_.im)] [] (fun v o new => v = .d (.str (bstr r)) ∧ o = [] ∧ new = []) := by
  refine acall_of_aw hτ func129 rfl (by simp) (by simp) ?_
  unfold m_impl_pairOf at h
  refine aw_seq ?_
  refine aw_region ?_
  refine awl_val hτ rfl rfl rfl ?_
  refine awl_nil ?_
  refine aw_seq ?_
  refine aw_region ?_
  refine awl_val hτ rfl rfl rfl ?_
  refine awl_val hτ rfl rfl rfl ?_
  refine bnd_elim h fun x6 hx6 h => ?_
  refine awl_callP hτ false [] rfl rfl rfl (enterOk func158 rfl rfl) rfl rfl (by simp) ⟨trivial, trivial⟩ (by repeat' first | exact trivial | refine ⟨?_, ?_⟩) (impl_BitsOf_ok n x_.re hx6) ?_
  rintro r0 o0 n0 ⟨rfl, rfl, rfl⟩ -
  refine bnd_elim h fun x7 hx7 h => ?_
  refine awl_callP hτ false [] rfl rfl rfl (enterOk func44 rfl rfl) rfl rfl (by simp) ⟨trivial, trivial, trivial⟩ (by repeat' first | exact trivial | refine ⟨?_, ?_⟩) (impl_bytesOf_ok n x6 (4 : Int) hx7) ?_
  rintro r0 o0 n0 ⟨rfl, rfl, rfl⟩ -
  refine awl_val hτ rfl rfl rfl ?_
  refine awl_val hτ rfl rfl rfl ?_
  refine bnd_elim h fun x8 hx8 h => ?_
  refine awl_callP hτ false [] rfl rfl rfl (enterOk func158 rfl rfl) rfl rfl (by simp) ⟨trivial, trivial⟩ (by repeat' first | exact trivial | refine ⟨?_, ?_⟩) (impl_BitsOf_ok n x_.im hx8) ?_
  rintro r0 o0 n0 ⟨rfl, rfl, rfl⟩ -
  refine bnd_elim h fun x9 hx9 h => ?_
  refine awl_callP hτ false [] rfl rfl rfl (enterOk func44 rfl rfl) rfl rfl (by simp) ⟨trivial, trivial, trivial⟩ (by repeat' first | exact trivial | refine ⟨?_, ?_⟩) (impl_bytesOf_ok n x8 (4 : Int) hx9) ?_
  rintro r0 o0 n0 ⟨rfl, rfl, rfl⟩ -
  refine grd_elim h fun hg10 h => ?_
  refine awl_need hτ (v := .d (.str (bstr (x7 ++ x9)))) rfl rfl (Eq.trans rfl (or_cat _ _)) hg10 ?_
  refine awl_val hτ rfl rfl rfl ?_
  refine awl_nil ?_
  refine aw_weak (weak_ofP [] (l := [(2, .d (.str (bstr (x7 ++ x9))))]) (objs := []) rfl (by simp) rfl (by repeat' first | exact trivial | refine ⟨?_, ?_⟩) ⟨rfl, trivial, trivial⟩) ?_
  refine aw_ret ?_
  have hr := Option.some.inj h
  subst hr
  exact ret_objs (.inr rfl) [] (objs' := []) (new := []) rfl (by simp) (by simp) rfl (by repeat' first | exact trivial | refine ⟨?_, ?_⟩) rfl rfl (by repeat' first | exact trivial | refine ⟨?_, ?_⟩) (fun _ => ⟨by simp [V.flat, V.flatA, V.flatC, D.flat], flat_nil⟩) ⟨rfl, rfl, rfl⟩
theorem impl_pairOf_ok (n : Nat) (x_ : Cx) {r : Str} (h : m_impl_pairOf n x_ = some r) : ACall prog false 129 [.d (.cx .f32 x_.re x_.im)] [] (fun v o new => v = .d (.str (bstr r)) ∧ o = [] ∧ new = []) := impl_pairOf_ok_fr0 false n x_ h
theorem impl_pairOf_ok_fr (n : Nat) (x_ : Cx) {r : Str} (h : m_impl_pairOf n x_ = some r) : ACall prog true 129 [.d (.cx .f32 x_.re x_.im)] [] (fun v o new => v = .d (.str (bstr r)) ∧ o = [] ∧ new = []) := impl_pairOf_ok_fr0 true n x_ h

def m_impl_phasesOf (n : Nat) (p_ : SPhases) : Option Str :=
  (m_impl_pairOf n p_.A).bind fun x6 =>
  (m_impl_pairOf n p_.B).bind fun x7 =>
  grd (x6.length + x7.length ≤ 9223372036854775807) <|
  (m_impl_pairOf n p_.C).bind fun x9 =>
  grd ((x6 ++ x7).length + x9.length ≤ 9223372036854775807) <|
  some ((x6 ++ x7) ++ x9)
theorem impl_phasesOf_ok_fr0 (fr : Bool) (n : Nat) (p_ : SPhases) {r : Str} (h : m_impl_phasesOf n p_ = some r) : ACall prog fr 128 [.agg [.d (.cx .f32 p_.A.re p_.A.im), .d (.cx .f32 p_.B.re p_.B.im), .d (.cx .f32 p_.C.re p_.C.im)]] [] (fun v o new => v = .d (.str (bstr r)) ∧ o = [] ∧ new = []) := by
  refine acall_of_aw hτ func128 rfl (by simp) (by simp) ?_
  unfold m_impl_phasesOf at h
  refine aw_seq ?_
  refine aw_region ?_
  refine awl_valH hτ rfl rfl rfl ?_
  refine awl_val hτ rfl rfl rfl ?_
  refine awl_nil ?_
  refine aw_seq ?_
  refine any_start ?_
  refine any_val hτ [0] 0 rfl rfl rfl rfl rfl ?_
  refine any_val hτ [0] 1 rfl rfl rfl rfl rfl ?_
  refine any_val hτ [0] 3 rfl rfl rfl rfl rfl ?_
  refine any_val hτ [0] 4 rfl rfl rfl rfl rfl ?_
  refine any_val hτ [0] 7 rfl rfl rfl rfl rfl ?_
  refine any_val hτ [0] 8 rfl rfl rfl rfl rfl ?_
  refine bnd_elim h fun x6 hx6 h => ?_
  refine any_callP hτ false [] [0] 2 rfl rfl rfl rfl (enterOk func129 rfl rfl) rfl rfl (by simp) ⟨trivial, trivial⟩ (by repeat' first | exact trivial | refine ⟨?_, ?_⟩) (impl_pairOf_ok n p_.A hx6) ⟨rfl, trivial⟩ ?_
  refine bnd_elim h fun x7 hx7 h => ?_
  refine any_callP hτ false [] [0] 5 rfl rfl rfl rfl (enterOk func129 rfl rfl) rfl rfl (by simp) ⟨trivial, trivial⟩ (by repeat' first | exact trivial | refine ⟨?_, ?_⟩) (impl_pairOf_ok n p_.B hx7) ⟨rfl, trivial⟩ ?_
  refine grd_elim h fun hg8 h => ?_
  refine any_need hτ (v := .d (.str (bstr (x6 ++ x7)))) [] 6 rfl rfl rfl rfl (Eq.trans rfl (or_cat _ _)) hg8 ?_
  refine bnd_elim h fun x9 hx9 h => ?_
  refine any_callP hτ false [] [0] 9 rfl rfl rfl rfl (enterOk func129 rfl rfl) rfl rfl (by simp) ⟨trivial, trivial⟩ (by repeat' first | exact trivial | refine ⟨?_, ?_⟩) (impl_pairOf_ok n p_.C hx9) ⟨rfl, trivial⟩ ?_
  refine grd_elim h fun hg10 h => ?_
  refine any_need hτ (v := .d (.str (bstr ((x6 ++ x7) ++ x9)))) [] 10 rfl rfl rfl rfl (Eq.trans rfl (or_cat _ _)) hg10 ?_
  refine any_val hτ [] 11 rfl rfl rfl rfl rfl ?_
  refine any_done mixed (by kernel_rfl) ?_
  refine aw_weak (weak_ofP [] (l := [(2, .d (.str (bstr ((x6 ++ x7) ++ x9))))]) (objs := []) rfl (by simp) rfl (by repeat' first | exact trivial | refine ⟨?_, ?_⟩) ⟨rfl, trivial, trivial⟩) ?_
  refine aw_ret ?_
  have hr := Option.some.inj h
  subst hr
  exact ret_objs (.inr rfl) [] (objs' := []) (new := []) rfl (by simp) (by simp) rfl (by repeat' first | exact trivial | refine ⟨?_, ?_⟩) rfl rfl (by repeat' first | exact trivial | refine ⟨?_, ?_⟩) (fun _ => ⟨by simp [V.flat, V.flatA, V.flatC, D.flat], flat_nil⟩) ⟨rfl, rfl, rfl⟩
theorem impl_phasesOf_ok (n : Nat) (p_ : SPhases) {r : Str} (h : m_impl_phasesOf n p_ = some r) : ACall prog false 128 [.agg [.d (.cx .f32 p_.A.re p_.A.im), .d (.cx .f32 p_.B.re p_.B.im), .d (.cx .f32 p_.C.re p_.C.im)]] [] (fun v o new => v = .d (.str (bstr r)) ∧ o = [] ∧ new = []) := impl_phasesOf_ok_fr0 false n p_ h
theorem impl_phasesOf_ok_fr (n : Nat) (p_ : SPhases) {r : Str} (h : m_impl_phasesOf n p_ = some r) : ACall prog true 128 [.agg [.d (.cx .f32 p_.A.re p_.A.im), .d (.cx .f32 p_.B.re p_.B.im), .d (.cx .f32 p_.C.re p_.C.im)]] [] (fun v o new => v = .d (.str (bstr r)) ∧ o = [] ∧ new = []) := impl_phasesOf_ok_fr0 true n p_ h

def vSPhases (p : SPhases) : PhV := ⟨p.A.re, p.A.im, p.B.re, p.B.im, p.C.re, p.C.im⟩
def vSBus (x : SBus) : BusV := ⟨x.Parent, x.Kind, x.Customers, x.Own.re, x.Own.im, x.Shared.re, x.Shared.im, vSPhases x.Load⟩
def vSTie (x : STie) : TieV := ⟨x.A, x.B, x.Most, x.Own.re, x.Own.im, x.Shared.re, x.Shared.im⟩
def m_impl_stored (n : Nat) (g_ : SGrid) : Option Str := storedM (m_impl_bytesOf n) (fun a b => m_impl_pairOf n (Cx.mk a b)) (fun p => m_impl_phasesOf n (SPhases.mk (Cx.mk p.a p.a') (Cx.mk p.b p.b') (Cx.mk p.c p.c'))) (vSPhases g_.Feeder.Source) (g_.Feeder.Buses.map vSBus) (g_.Ties.map vSTie)
theorem impl_stored_ok (n : Nat) (g_ : SGrid) {r : Str} (h : m_impl_stored n g_ = some r) : ACall prog false 84 [.agg [.d (.cx .f32 g_.Feeder.Source.A.re g_.Feeder.Source.A.im), .d (.cx .f32 g_.Feeder.Source.B.re g_.Feeder.Source.B.im), .d (.cx .f32 g_.Feeder.Source.C.re g_.Feeder.Source.C.im), .d (.sl false (g_.Feeder.Buses.map eSBus)), .d (.sl false (g_.Ties.map eSTie))]] [] (fun v o new => v = .d (.str (bstr r)) ∧ o = [] ∧ new = []) := stored_does (S := vSPhases g_.Feeder.Source) (vB := vSBus) (vT := vSTie) (fun _ => rfl) (fun _ => rfl) (fun a b r h => impl_bytesOf_ok n a b h) (fun a b r h => impl_pairOf_ok n (Cx.mk a b) h) (fun p r h => impl_phasesOf_ok n (SPhases.mk (Cx.mk p.a p.a') (Cx.mk p.b p.b') (Cx.mk p.c p.c')) h) h
theorem impl_stored_ok_fr (n : Nat) (g_ : SGrid) {r : Str} (h : m_impl_stored n g_ = some r) : ACall prog true 84 [.agg [.d (.cx .f32 g_.Feeder.Source.A.re g_.Feeder.Source.A.im), .d (.cx .f32 g_.Feeder.Source.B.re g_.Feeder.Source.B.im), .d (.cx .f32 g_.Feeder.Source.C.re g_.Feeder.Source.C.im), .d (.sl false (g_.Feeder.Buses.map eSBus)), .d (.sl false (g_.Ties.map eSTie))]] [] (fun v o new => v = .d (.str (bstr r)) ∧ o = [] ∧ new = []) := stored_does (S := vSPhases g_.Feeder.Source) (vB := vSBus) (vT := vSTie) (fun _ => rfl) (fun _ => rfl) (fun a b r h => impl_bytesOf_ok n a b h) (fun a b r h => impl_pairOf_ok n (Cx.mk a b) h) (fun p r h => impl_phasesOf_ok n (SPhases.mk (Cx.mk p.a p.a') (Cx.mk p.b p.b') (Cx.mk p.c p.c')) h) h

def m_impl_loadGrid_j3 (n : Nat) (x49 : SPhases × SReader) (v77 : List SBus) (v95 : Int) (v97 : List STie) : Option (SGrid × Int × Bool) :=
  some ((SGrid.mk (SFeeder.mk x49.1 v77) v97), v95, true)
def m_impl_loadGrid_j4 (n : Nat) (x49 : SPhases × SReader) (v77 : List SBus) (v95 : Int) (v97 : List STie) (v111 : Bool) : Option (SGrid × Int × Bool) :=
  if v111 = true then
    some ((SGrid.mk (SFeeder.mk (SPhases.mk (Cx.mk (0 : Nat) (0 : Nat)) (Cx.mk (0 : Nat) (0 : Nat)) (Cx.mk (0 : Nat) (0 : Nat))) ([] : List SBus)) ([] : List STie)), (0 : Int), false)
  else
    m_impl_loadGrid_j3 n x49 v77 v95 v97
def m_impl_loadGrid_j2 (n : Nat) (s_ : Str) (x49 : SPhases × SReader) (v77 : List SBus) (v94 : Str) (v95 : Int) (v96 : Bool) (v97 : List STie) : Option (SGrid × Int × Bool) :=
  if v96 = true then
    m_impl_loadGrid_j4 n x49 v77 v95 v97 true
  else
    (m_impl_ValidGrid n (SGrid.mk (SFeeder.mk x49.1 v77) v97)).bind fun x115 =>
    if x115 = true then
      grd (0 ≤ (0 : Int) ∧ (0 : Int) ≤ v95 ∧ v95 ≤ (s_.length : Int)) <|
      (m_impl_stored n (SGrid.mk (SFeeder.mk x49.1 v77) v97)).bind fun x118 =>
      m_impl_loadGrid_j4 n x49 v77 v95 v97 (!(decide (x118 = (sub s_ (0 : Int) v95))))
    else
      m_impl_loadGrid_j4 n x49 v77 v95 v97 true
def m_impl_loadGrid_l5 (n : Nat) (s_ : Str) (x49 : SPhases × SReader) (v77 : List SBus) (x120 : Int × SReader) : Nat → Str → Int → Bool → List STie → Int → Option (SGrid × Int × Bool)
  | 0, _, _, _, _, _ => none
  | m135 + 1, v123, v124, v125, v126, v127 =>
    if v127 < x120.1 then
      (m_impl_reader_tie n (SReader.mk v123 v124 v125)).bind fun x138 =>
      grd (room (v126.length + 1) 40) <|
      (m_impl_loadGrid_l5 n s_ x49 v77 x120 m135) x138.2.s x138.2.at_ x138.2.short (v126 ++ [x138.1]) (w64 (v127 + (1 : Int)))
    else
      m_impl_loadGrid_j2 n s_ x49 v77 v123 v124 v125 v126
def m_impl_loadGrid_j1 (n : Nat) (s_ : Str) (x49 : SPhases × SReader) (v72 : List SBus) (v73 : List STie) (v74 : Str) (v75 : Int) (v76 : Bool) (v77 : List SBus) (v78 : List STie) : Option (SGrid × Int × Bool) :=
  (m_impl_reader_number n (SReader.mk v74 v75 v76) (1 : Int)).bind fun x120 =>
  m_impl_loadGrid_l5 n s_ x49 v77 x120 n x120.2.s x120.2.at_ x120.2.short v78 (0 : Int)
def m_impl_loadGrid_l6 (n : Nat) (s_ : Str) (x49 : SPhases × SReader) (x141 : Int × SReader) : Nat → List SBus → List STie → Str → Int → Bool → List SBus → List STie → Int → Option (SGrid × Int × Bool)
  | 0, _, _, _, _, _, _, _, _ => none
  | m163 + 1, v145, v146, v147, v148, v149, v150, v151, v152 =>
    if v152 < x141.1 then
      (m_impl_reader_bus n (SReader.mk v147 v148 v149)).bind fun x166 =>
      grd (room (v150.length + 1) 64) <|
      (m_impl_loadGrid_l6 n s_ x49 x141 m163) v145 v146 x166.2.s x166.2.at_ x166.2.short (v150 ++ [x166.1]) v151 (w64 (v152 + (1 : Int)))
    else
      m_impl_loadGrid_j1 n s_ x49 v145 v146 v147 v148 v149 v150 v151
def m_impl_loadGrid (n : Nat) (s_ : Str) : Option (SGrid × Int × Bool) :=
  (m_strings_HasPrefix n s_ ([70, 68, 82, 49] : Str)).bind fun x47 =>
  if x47 = true then
    (m_impl_reader_phases n (SReader.mk s_ (4 : Int) false)).bind fun x49 =>
    (m_impl_reader_number n x49.2 (1 : Int)).bind fun x141 =>
    m_impl_loadGrid_l6 n s_ x49 x141 n ([] : List SBus) ([] : List STie) x141.2.s x141.2.at_ x141.2.short ([] : List SBus) ([] : List STie) (0 : Int)
  else
    some ((SGrid.mk (SFeeder.mk (SPhases.mk (Cx.mk (0 : Nat) (0 : Nat)) (Cx.mk (0 : Nat) (0 : Nat)) (Cx.mk (0 : Nat) (0 : Nat))) ([] : List SBus)) ([] : List STie)), (0 : Int), false)
theorem impl_loadGrid_ok_fr0 (fr : Bool) (n : Nat) (s_ : Str) {r : SGrid × Int × Bool} (h : m_impl_loadGrid n s_ = some r) : ACall prog fr 34 [.d (.str (bstr s_))] [] (fun v o new => v = .tup [.agg [.d (.cx .f32 r.1.Feeder.Source.A.re r.1.Feeder.Source.A.im), .d (.cx .f32 r.1.Feeder.Source.B.re r.1.Feeder.Source.B.im), .d (.cx .f32 r.1.Feeder.Source.C.re r.1.Feeder.Source.C.im), .row 0 r.1.Feeder.Buses.length 0 r.1.Feeder.Buses.length, .row 1 r.1.Ties.length 0 r.1.Ties.length], .d (.int .i64 r.2.1), .d (.bool r.2.2)] ∧ o = [] ∧ new = [.row 8 (r.1.Feeder.Buses.map eSBus), .row 5 (r.1.Ties.map eSTie)]) := by
  refine acall_of_aw hτ func34 rfl (by simp) (by simp) ?_
  unfold m_impl_loadGrid at h
  refine aw_seq ?_
  refine aw_region ?_
  refine awl_valH hτ rfl rfl rfl ?_
  refine awl_val hτ rfl rfl rfl ?_
  refine awl_val hτ rfl rfl rfl ?_
  refine awl_nil ?_
  refine aw_seq ?_
  refine aw_region ?_
  refine awl_val hτ rfl rfl rfl ?_
  refine awl_val hτ rfl rfl rfl ?_
  refine awl_val hτ rfl rfl rfl ?_
  refine awl_valH hτ rfl rfl rfl ?_
  refine awl_valH hτ rfl rfl rfl ?_
  refine awl_valH hτ rfl rfl rfl ?_
  refine awl_valH hτ rfl rfl rfl ?_
  refine awl_nil ?_
  refine aw_seq ?_
  refine aw_seq ?_
  refine aw_weak (weak_ofP [0, 1, 2] (l := [(0, .d (.str (bstr s_))), (2, .ptr 0 0), (5, .ptr 1 0), (6, .ptr 2 0)]) (objs := [.box [.d (.cx .f32 (0 : Nat) (0 : Nat)), .d (.cx .f32 (0 : Nat) (0 : Nat)), .d (.cx .f32 (0 : Nat) (0 : Nat)), .d (.nils), .d (.nils)], .box [.d (.str (bstr s_)), .d (.int .i64 (4 : Int)), .d (.bool false)], .box [.d (.cx .f32 (0 : Nat) (0 : Nat)), .d (.cx .f32 (0 : Nat) (0 : Nat)), .d (.cx .f32 (0 : Nat) (0 : Nat)), .d (.nils), .d (.nils)]]) rfl (by simp) rfl (by repeat' first | exact trivial | refine ⟨?_, ?_⟩) ⟨rfl, trivial, rfl, trivial, rfl, trivial, rfl, trivial, trivial⟩) ?_
  refine aw_region ?_
  refine awl_val hτ rfl rfl rfl ?_
  refine bnd_elim h fun x47 hx47 h => ?_
  refine awl_callP hτ false [] rfl rfl rfl (enterOk func78 rfl rfl) rfl rfl (by simp) ⟨trivial, trivial, trivial⟩ (by repeat' first | exact trivial | refine ⟨?_, ?_⟩) (strings_HasPrefix_ok n s_ ([70, 68, 82, 49] : Str) hx47) ?_
  rintro r0 o0 n0 ⟨rfl, rfl, rfl⟩ -
  refine awl_val hτ rfl rfl rfl ?_
  refine awl_nil ?_
  refine aw_cond rfl (fun hc48 => ?_) (fun hc48 => ?_)
  · have hc48 := not_t hc48
    have h := if_bf h hc48
    refine aw_seq ?_
    refine aw_region ?_
    refine awl_val hτ rfl rfl rfl ?_
    refine awl_valH hτ rfl rfl rfl ?_
    refine awl_val hτ rfl rfl rfl ?_
    refine awl_val hτ rfl rfl rfl ?_
    refine awl_nil ?_
    refine aw_weak (weak_ofP [0] (l := [(2, .ptr 0 0), (3, .d (.int .i64 (0 : Int))), (4, .d (.bool false))]) (objs := [.box [.d (.cx .f32 (0 : Nat) (0 : Nat)), .d (.cx .f32 (0 : Nat) (0 : Nat)), .d (.cx .f32 (0 : Nat) (0 : Nat)), .d (.nils), .d (.nils)]]) rfl (by simp) rfl (by repeat' first | exact trivial | refine ⟨?_, ?_⟩) ⟨rfl, trivial, rfl, trivial, rfl, trivial, trivial⟩) ?_
    refine aw_weak (weak_relax [8, 5] (l' := [(2, .ptr 0 0), (3, .d (.int .i64 (0 : Int))), (4, .d (.bool false))]) (objs' := [.box [.d (.cx .f32 (0 : Nat) (0 : Nat)), .d (.cx .f32 (0 : Nat) (0 : Nat)), .d (.cx .f32 (0 : Nat) (0 : Nat)), .row 1 (([] : List SBus).length) 0 (([] : List SBus).length), .row 2 (([] : List STie).length) 0 (([] : List STie).length)]]) (.cons (.c (.refl _)) (.cons (.c (.refl _)) (.cons (.c (.refl _)) .nil))) (.cons (.box (.cons (.refl _) (.cons (.refl _) (.cons (.refl _) (.cons (.ghost ⟨Nat.le_of_ble_eq_true rfl, Nat.le_of_ble_eq_true rfl⟩) (.cons (.ghost ⟨Nat.le_of_ble_eq_true rfl, Nat.le_of_ble_eq_true rfl⟩) .nil)))))) .nil)) ?_
    refine aw_ret ?_
    have hr := Option.some.inj h
    subst hr
    exact ret_objs (.inr rfl) [1, 2] (objs' := []) (new := [.row 8 (([] : List SBus).map eSBus), .row 5 (([] : List STie).map eSTie)]) rfl (by simp) (by simp) rfl (by repeat' first | exact trivial | refine ⟨?_, ?_⟩) rfl rfl (by repeat' first | exact trivial | refine ⟨?_, ?_⟩) (fun _ => ⟨by simp [V.flat, V.flatA, V.flatC, D.flat], (flat_cons (flat_row eSBus_flat _) (flat_cons (flat_row eSTie_flat _) flat_nil))⟩) ⟨rfl, rfl, rfl⟩
  · have hc48 := not_f hc48
    have h := if_bt h hc48
    refine aw_skip ?_
    refine aw_seq ?_
    refine aw_region ?_
    refine bnd_elim h fun x49 hx49 h => ?_
    refine awl_callP hτ false [1] rfl rfl rfl (enterOk func79 rfl rfl) rfl rfl (by simp) ⟨trivial, trivial⟩ (by repeat' first | exact trivial | refine ⟨?_, ?_⟩) (impl_reader_phases_ok n (SReader.mk s_ (4 : Int) false) hx49) ?_
    rintro r0 o0 n0 ⟨rfl, rfl, rfl⟩ -
    refine awl_val hτ rfl rfl rfl ?_
    refine awl_val hτ rfl rfl rfl ?_
    refine awl_valH hτ rfl rfl rfl ?_
    refine awl_nil ?_
    refine aw_hk1 (ι := List SBus × List STie × Str × Int × Bool × List SBus × List STie) (fun (v72, v73, v74, v75, v76, v77, v78) => St.of [(0, .d (.str (bstr s_))), (2, .ptr 0 0), (5, .ptr 3 0), (6, .ptr 4 0)] [.box [.d (.cx .f32 (0 : Nat) (0 : Nat)), .d (.cx .f32 (0 : Nat) (0 : Nat)), .d (.cx .f32 (0 : Nat) (0 : Nat)), .row 1 v72.length 0 v72.length, .row 2 v73.length 0 v73.length], .row 8 (v72.map eSBus), .row 5 (v73.map eSTie), .box [.d (.str (bstr v74)), .d (.int .i64 v75), .d (.bool v76)], .box [.d (.cx .f32 x49.1.A.re x49.1.A.im), .d (.cx .f32 x49.1.B.re x49.1.B.im), .d (.cx .f32 x49.1.C.re x49.1.C.im), .row 5 v77.length 0 v77.length, .row 6 v78.length 0 v78.length], .row 8 (v77.map eSBus), .row 5 (v78.map eSTie)] f34.ntmps 0) (fun (v72, v73, v74, v75, v76, v77, v78) => m_impl_loadGrid_j1 n s_ x49 v72 v73 v74 v75 v76 v77 v78 = some r) ?_ (fun hk140 => ?_)
    · rintro ⟨v72, v73, v74, v75, v76, v77, v78⟩ h
      replace h : m_impl_loadGrid_j1 n s_ x49 v72 v73 v74 v75 v76 v77 v78 = some r := h
      unfold m_impl_loadGrid_j1 at h
      refine aw_hk1 (ι := Str × Int × Bool × List STie) (fun (v94, v95, v96, v97) => St.of [(0, .d (.str (bstr s_))), (2, .ptr 0 0), (5, .ptr 3 0), (6, .ptr 4 0)] [.box [.d (.cx .f32 (0 : Nat) (0 : Nat)), .d (.cx .f32 (0 : Nat) (0 : Nat)), .d (.cx .f32 (0 : Nat) (0 : Nat)), .row 1 v72.length 0 v72.length, .row 2 v73.length 0 v73.length], .row 8 (v72.map eSBus), .row 5 (v73.map eSTie), .box [.d (.str (bstr v94)), .d (.int .i64 v95), .d (.bool v96)], .box [.d (.cx .f32 x49.1.A.re x49.1.A.im), .d (.cx .f32 x49.1.B.re x49.1.B.im), .d (.cx .f32 x49.1.C.re x49.1.C.im), .row 5 v77.length 0 v77.length, .row 6 v97.length 0 v97.length], .row 8 (v77.map eSBus), .row 5 (v97.map eSTie)] f34.ntmps 0) (fun (v94, v95, v96, v97) => m_impl_loadGrid_j2 n s_ x49 v77 v94 v95 v96 v97 = some r) ?_ (fun hk119 => ?_)
      · rintro ⟨v94, v95, v96, v97⟩ h
        replace h : m_impl_loadGrid_j2 n s_ x49 v77 v94 v95 v96 v97 = some r := h
        unfold m_impl_loadGrid_j2 at h
        refine aw_hk1 (ι := Unit) (fun _ => St.of [(2, .ptr 0 0), (5, .ptr 3 0), (6, .ptr 4 0)] [.box [.d (.cx .f32 (0 : Nat) (0 : Nat)), .d (.cx .f32 (0 : Nat) (0 : Nat)), .d (.cx .f32 (0 : Nat) (0 : Nat)), .row 1 v72.length 0 v72.length, .row 2 v73.length 0 v73.length], .row 8 (v72.map eSBus), .row 5 (v73.map eSTie), .box [.d (.str (bstr v94)), .d (.int .i64 v95), .d (.bool v96)], .box [.d (.cx .f32 x49.1.A.re x49.1.A.im), .d (.cx .f32 x49.1.B.re x49.1.B.im), .d (.cx .f32 x49.1.C.re x49.1.C.im), .row 5 v77.length 0 v77.length, .row 6 v97.length 0 v97.length], .row 8 (v77.map eSBus), .row 5 (v97.map eSTie)] f34.ntmps 0) (fun _ => m_impl_loadGrid_j3 n x49 v77 v95 v97 = some r) ?_ (fun hk104 => ?_)
        · rintro ⟨⟩ h
          replace h : m_impl_loadGrid_j3 n x49 v77 v95 v97 = some r := h
          unfold m_impl_loadGrid_j3 at h
          refine aw_seq ?_
          refine any_start ?_
          refine any_val hτ [4] 0 rfl rfl rfl rfl rfl ?_
          refine any_val hτ [3] 1 rfl rfl rfl rfl rfl ?_
          refine any_val hτ [3] 2 rfl rfl rfl rfl rfl ?_
          refine any_valHP hτ [1, 2, 3, 4, 5, 6] 3 rfl rfl rfl rfl ⟨rfl, rfl, rfl, rfl, rfl, rfl, trivial⟩ ?_
          refine any_val hτ [] 4 rfl rfl rfl rfl rfl ?_
          refine any_val hτ [] 5 rfl rfl rfl rfl rfl ?_
          refine any_done mixed (by kernel_rfl) ?_
          refine aw_weak (weak_ofP [0, 5, 6] (l := [(2, .ptr 0 0), (3, .d (.int .i64 v95)), (4, .d (.bool true))]) (objs := [.box [.d (.cx .f32 x49.1.A.re x49.1.A.im), .d (.cx .f32 x49.1.B.re x49.1.B.im), .d (.cx .f32 x49.1.C.re x49.1.C.im), .row 1 v77.length 0 v77.length, .row 2 v97.length 0 v97.length], .row 8 (v77.map eSBus), .row 5 (v97.map eSTie)]) rfl (by simp) rfl (by repeat' first | exact trivial | refine ⟨?_, ?_⟩) ⟨rfl, trivial, rfl, trivial, rfl, trivial, trivial⟩) ?_
          refine aw_ret ?_
          have hr := Option.some.inj h
          subst hr
          exact ret_objs (.inr rfl) [1, 2] (objs' := []) (new := [.row 8 (v77.map eSBus), .row 5 (v97.map eSTie)]) rfl (by simp) (by simp) rfl (by repeat' first | exact trivial | refine ⟨?_, ?_⟩) rfl rfl (by repeat' first | exact trivial | refine ⟨?_, ?_⟩) (fun _ => ⟨by simp [V.flat, V.flatA, V.flatC, D.flat], (flat_cons (flat_row eSBus_flat _) (flat_cons (flat_row eSTie_flat _) flat_nil))⟩) ⟨rfl, rfl, rfl⟩
        · refine aw_seq ?_
          refine aw_hk1 (ι := Bool) (fun v111 => St.of [(2, .ptr 0 0), (5, .ptr 3 0), (6, .ptr 4 0), (54, .d (.bool v111))] [.box [.d (.cx .f32 (0 : Nat) (0 : Nat)), .d (.cx .f32 (0 : Nat) (0 : Nat)), .d (.cx .f32 (0 : Nat) (0 : Nat)), .row 1 v72.length 0 v72.length, .row 2 v73.length 0 v73.length], .row 8 (v72.map eSBus), .row 5 (v73.map eSTie), .box [.d (.str (bstr v94)), .d (.int .i64 v95), .d (.bool v96)], .box [.d (.cx .f32 x49.1.A.re x49.1.A.im), .d (.cx .f32 x49.1.B.re x49.1.B.im), .d (.cx .f32 x49.1.C.re x49.1.C.im), .row 5 v77.length 0 v77.length, .row 6 v97.length 0 v97.length], .row 8 (v77.map eSBus), .row 5 (v97.map eSTie)] f34.ntmps 0) (fun v111 => m_impl_loadGrid_j4 n x49 v77 v95 v97 v111 = some r) ?_ (fun hk113 => ?_)
          · rintro v111 h
            replace h : m_impl_loadGrid_j4 n x49 v77 v95 v97 v111 = some r := h
            unfold m_impl_loadGrid_j4 at h
            refine aw_cond rfl (fun hc112 => ?_) (fun hc112 => ?_)
            · have h := if_bt h hc112
              refine aw_seq ?_
              refine aw_region ?_
              refine awl_val hτ rfl rfl rfl ?_
              refine awl_valH hτ rfl rfl rfl ?_
              refine awl_val hτ rfl rfl rfl ?_
              refine awl_val hτ rfl rfl rfl ?_
              refine awl_nil ?_
              refine aw_weak (weak_ofP [0] (l := [(2, .ptr 0 0), (3, .d (.int .i64 (0 : Int))), (4, .d (.bool false))]) (objs := [.box [.d (.cx .f32 (0 : Nat) (0 : Nat)), .d (.cx .f32 (0 : Nat) (0 : Nat)), .d (.cx .f32 (0 : Nat) (0 : Nat)), .d (.nils), .d (.nils)]]) rfl (by simp) rfl (by repeat' first | exact trivial | refine ⟨?_, ?_⟩) ⟨rfl, trivial, rfl, trivial, rfl, trivial, trivial⟩) ?_
              refine aw_weak (weak_relax [8, 5] (l' := [(2, .ptr 0 0), (3, .d (.int .i64 (0 : Int))), (4, .d (.bool false))]) (objs' := [.box [.d (.cx .f32 (0 : Nat) (0 : Nat)), .d (.cx .f32 (0 : Nat) (0 : Nat)), .d (.cx .f32 (0 : Nat) (0 : Nat)), .row 1 (([] : List SBus).length) 0 (([] : List SBus).length), .row 2 (([] : List STie).length) 0 (([] : List STie).length)]]) (.cons (.c (.refl _)) (.cons (.c (.refl _)) (.cons (.c (.refl _)) .nil))) (.cons (.box (.cons (.refl _) (.cons (.refl _) (.cons (.refl _) (.cons (.ghost ⟨Nat.le_of_ble_eq_true rfl, Nat.le_of_ble_eq_true rfl⟩) (.cons (.ghost ⟨Nat.le_of_ble_eq_true rfl, Nat.le_of_ble_eq_true rfl⟩) .nil)))))) .nil)) ?_
              refine aw_ret ?_
              have hr := Option.some.inj h
              subst hr
              exact ret_objs (.inr rfl) [1, 2] (objs' := []) (new := [.row 8 (([] : List SBus).map eSBus), .row 5 (([] : List STie).map eSTie)]) rfl (by simp) (by simp) rfl (by repeat' first | exact trivial | refine ⟨?_, ?_⟩) rfl rfl (by repeat' first | exact trivial | refine ⟨?_, ?_⟩) (fun _ => ⟨by simp [V.flat, V.flatA, V.flatC, D.flat], (flat_cons (flat_row eSBus_flat _) (flat_cons (flat_row eSTie_flat _) flat_nil))⟩) ⟨rfl, rfl, rfl⟩
            · have h := if_bf h hc112
              refine aw_skip ?_
              refine aw_weak (weak_ofP [0, 1, 2, 3, 4, 5, 6] (l := [(2, .ptr 0 0), (5, .ptr 3 0), (6, .ptr 4 0)]) (objs := [.box [.d (.cx .f32 (0 : Nat) (0 : Nat)), .d (.cx .f32 (0 : Nat) (0 : Nat)), .d (.cx .f32 (0 : Nat) (0 : Nat)), .row 1 v72.length 0 v72.length, .row 2 v73.length 0 v73.length], .row 8 (v72.map eSBus), .row 5 (v73.map eSTie), .box [.d (.str (bstr v94)), .d (.int .i64 v95), .d (.bool v96)], .box [.d (.cx .f32 x49.1.A.re x49.1.A.im), .d (.cx .f32 x49.1.B.re x49.1.B.im), .d (.cx .f32 x49.1.C.re x49.1.C.im), .row 5 v77.length 0 v77.length, .row 6 v97.length 0 v97.length], .row 8 (v77.map eSBus), .row 5 (v97.map eSTie)]) rfl (by simp) rfl (by repeat' first | exact trivial | refine ⟨?_, ?_⟩) ⟨rfl, trivial, rfl, trivial, rfl, trivial, trivial⟩) ?_
              exact hk104 () h
          · refine aw_seq ?_
            refine any_start ?_
            refine any_val hτ [3] 0 rfl rfl rfl rfl rfl ?_
            refine any_val hτ [3] 1 rfl rfl rfl rfl rfl ?_
            refine any_val hτ [] 2 rfl rfl rfl rfl rfl ?_
            refine any_split 41 rfl (fun hb114 => ?_) (fun hb114 => ?_)
            · have h := if_bt h hb114
              refine any_skip 3 rfl rfl rfl ?_
              refine any_skip 4 rfl rfl rfl ?_
              refine any_skip 5 rfl rfl rfl ?_
              refine any_val hτ [] 6 rfl rfl rfl rfl rfl ?_
              refine any_val hτ [] 7 rfl rfl rfl rfl rfl ?_
              refine any_skip 8 rfl rfl rfl ?_
              refine any_skip 10 rfl rfl rfl ?_
              refine any_skip 11 rfl rfl rfl ?_
              refine any_skip 12 rfl rfl rfl ?_
              refine any_skip 13 rfl rfl rfl ?_
              refine any_skip 9 rfl rfl rfl ?_
              refine any_skip 14 rfl rfl rfl ?_
              refine any_val hτ [] 15 rfl rfl rfl rfl rfl ?_
              refine any_done mixed (by kernel_rfl) ?_
              refine aw_weak (weak_ofP [0, 1, 2, 3, 4, 5, 6] (l := [(2, .ptr 0 0), (5, .ptr 3 0), (6, .ptr 4 0), (54, .d (.bool true))]) (objs := [.box [.d (.cx .f32 (0 : Nat) (0 : Nat)), .d (.cx .f32 (0 : Nat) (0 : Nat)), .d (.cx .f32 (0 : Nat) (0 : Nat)), .row 1 v72.length 0 v72.length, .row 2 v73.length 0 v73.length], .row 8 (v72.map eSBus), .row 5 (v73.map eSTie), .box [.d (.str (bstr v94)), .d (.int .i64 v95), .d (.bool v96)], .box [.d (.cx .f32 x49.1.A.re x49.1.A.im), .d (.cx .f32 x49.1.B.re x49.1.B.im), .d (.cx .f32 x49.1.C.re x49.1.C.im), .row 5 v77.length 0 v77.length, .row 6 v97.length 0 v97.length], .row 8 (v77.map eSBus), .row 5 (v97.map eSTie)]) rfl (by simp) rfl (by repeat' first | exact trivial | refine ⟨?_, ?_⟩) ⟨rfl, trivial, rfl, trivial, rfl, trivial, rfl, trivial, trivial⟩) ?_
              exact hk113 true h
            · have h := if_bf h hb114
              refine any_val hτ [4] 3 rfl rfl rfl rfl rfl ?_
              refine bnd_elim h fun x115 hx115 h => ?_
              refine any_callP hτ true [] [0, 1, 2, 3, 4, 5, 6] 4 rfl rfl rfl rfl (enterOk func83 rfl rfl) (mapO_cons (exV_agg (mapO_cons rfl (mapO_cons rfl (mapO_cons rfl (mapO_cons (exC_view (f := eSBus) v77 rfl rfl rfl) (mapO_cons (exC_view (f := eSTie) v97 rfl rfl rfl) mapO_nil)))))) mapO_nil) rfl (by simp) ⟨⟨trivial, trivial, trivial, (exP_view (f := eSBus) v77 rfl rfl rfl), (exP_view (f := eSTie) v97 rfl rfl rfl)⟩, trivial⟩ (by repeat' first | exact trivial | refine ⟨?_, ?_⟩) (impl_ValidGrid_ok_fr n (SGrid.mk (SFeeder.mk x49.1 v77) v97) hx115) ⟨rfl, rfl, rfl, rfl, rfl, rfl, rfl, trivial⟩ ?_
              refine any_val hτ [] 5 rfl rfl rfl rfl rfl ?_
              refine any_val hτ [] 6 rfl rfl rfl rfl rfl ?_
              refine any_val hτ [] 7 rfl rfl rfl rfl rfl ?_
              refine any_split 46 rfl (fun hb116 => ?_) (fun hb116 => ?_)
              · have hb116 := not_t hb116
                have h := if_bf h hb116
                refine any_skip 8 rfl rfl rfl ?_
                refine any_skip 10 rfl rfl rfl ?_
                refine any_skip 11 rfl rfl rfl ?_
                refine any_skip 12 rfl rfl rfl ?_
                refine any_skip 13 rfl rfl rfl ?_
                refine any_skip 9 rfl rfl rfl ?_
                refine any_skip 14 rfl rfl rfl ?_
                refine any_val hτ [] 15 rfl rfl rfl rfl rfl ?_
                refine any_done mixed (by kernel_rfl) ?_
                refine aw_weak (weak_ofP [0, 1, 2, 3, 4, 5, 6] (l := [(2, .ptr 0 0), (5, .ptr 3 0), (6, .ptr 4 0), (54, .d (.bool true))]) (objs := [.box [.d (.cx .f32 (0 : Nat) (0 : Nat)), .d (.cx .f32 (0 : Nat) (0 : Nat)), .d (.cx .f32 (0 : Nat) (0 : Nat)), .row 1 v72.length 0 v72.length, .row 2 v73.length 0 v73.length], .row 8 (v72.map eSBus), .row 5 (v73.map eSTie), .box [.d (.str (bstr v94)), .d (.int .i64 v95), .d (.bool v96)], .box [.d (.cx .f32 x49.1.A.re x49.1.A.im), .d (.cx .f32 x49.1.B.re x49.1.B.im), .d (.cx .f32 x49.1.C.re x49.1.C.im), .row 5 v77.length 0 v77.length, .row 6 v97.length 0 v97.length], .row 8 (v77.map eSBus), .row 5 (v97.map eSTie)]) rfl (by simp) rfl (by repeat' first | exact trivial | refine ⟨?_, ?_⟩) ⟨rfl, trivial, rfl, trivial, rfl, trivial, rfl, trivial, trivial⟩) ?_
                exact hk113 true h
              · have hb116 := not_f hb116
                have h := if_bt h hb116
                refine any_val hτ [4] 8 rfl rfl rfl rfl rfl ?_
                refine any_val hτ [] 10 rfl rfl rfl rfl rfl ?_
                refine any_val hτ [3] 11 rfl rfl rfl rfl rfl ?_
                refine any_val hτ [3] 12 rfl rfl rfl rfl rfl ?_
                refine grd_elim h fun hg117 h => ?_
                refine any_need hτ (v := .d (.str (bstr (sub s_ (0 : Int) v95)))) [] 13 rfl rfl rfl rfl (Eq.trans rfl (or_ssub _ _ _)) hg117 ?_
                refine bnd_elim h fun x118 hx118 h => ?_
                refine any_callP hτ true [] [0, 1, 2, 3, 4, 5, 6] 9 rfl rfl rfl rfl (enterOk func84 rfl rfl) (mapO_cons (exV_agg (mapO_cons rfl (mapO_cons rfl (mapO_cons rfl (mapO_cons (exC_view (f := eSBus) v77 rfl rfl rfl) (mapO_cons (exC_view (f := eSTie) v97 rfl rfl rfl) mapO_nil)))))) mapO_nil) rfl (by simp) ⟨⟨trivial, trivial, trivial, (exP_view (f := eSBus) v77 rfl rfl rfl), (exP_view (f := eSTie) v97 rfl rfl rfl)⟩, trivial⟩ (by repeat' first | exact trivial | refine ⟨?_, ?_⟩) (impl_stored_ok_fr n (SGrid.mk (SFeeder.mk x49.1 v77) v97) hx118) ⟨rfl, rfl, rfl, rfl, rfl, rfl, rfl, trivial⟩ ?_
                refine any_val hτ (v := .d (.bool (!(decide (x118 = (sub s_ (0 : Int) v95)))))) [] 14 rfl rfl rfl rfl (or_sne _ _) ?_
                refine any_val hτ [] 15 rfl rfl rfl rfl rfl ?_
                refine any_done mixed (by kernel_rfl) ?_
                refine aw_weak (weak_ofP [0, 1, 2, 3, 4, 5, 6] (l := [(2, .ptr 0 0), (5, .ptr 3 0), (6, .ptr 4 0), (54, .d (.bool (!(decide (x118 = (sub s_ (0 : Int) v95))))))]) (objs := [.box [.d (.cx .f32 (0 : Nat) (0 : Nat)), .d (.cx .f32 (0 : Nat) (0 : Nat)), .d (.cx .f32 (0 : Nat) (0 : Nat)), .row 1 v72.length 0 v72.length, .row 2 v73.length 0 v73.length], .row 8 (v72.map eSBus), .row 5 (v73.map eSTie), .box [.d (.str (bstr v94)), .d (.int .i64 v95), .d (.bool v96)], .box [.d (.cx .f32 x49.1.A.re x49.1.A.im), .d (.cx .f32 x49.1.B.re x49.1.B.im), .d (.cx .f32 x49.1.C.re x49.1.C.im), .row 5 v77.length 0 v77.length, .row 6 v97.length 0 v97.length], .row 8 (v77.map eSBus), .row 5 (v97.map eSTie)]) rfl (by simp) rfl (by repeat' first | exact trivial | refine ⟨?_, ?_⟩) ⟨rfl, trivial, rfl, trivial, rfl, trivial, rfl, trivial, trivial⟩) ?_
                exact hk113 (!(decide (x118 = (sub s_ (0 : Int) v95)))) h
      · refine aw_seq ?_
        refine aw_seq ?_
        refine aw_region ?_
        refine bnd_elim h fun x120 hx120 h => ?_
        refine awl_callP hτ false [3] rfl rfl rfl (enterOk func80 rfl rfl) rfl rfl (by simp) ⟨trivial, trivial, trivial⟩ (by repeat' first | exact trivial | refine ⟨?_, ?_⟩) (impl_reader_number_ok n (SReader.mk v74 v75 v76) (1 : Int) hx120) ?_
        rintro r0 o0 n0 ⟨rfl, rfl, rfl⟩ -
        refine awl_val hτ rfl rfl rfl ?_
        refine awl_nil ?_
        refine aw_block ?_
        refine aw_loop (ι := Nat × Str × Int × Bool × List STie × Int) (fun (m135, v123, v124, v125, v126, v127) => St.of [(0, .d (.str (bstr s_))), (2, .ptr 0 0), (5, .ptr 3 0), (6, .ptr 4 0), (29, .d (.int .i64 x120.1)), (30, .d (.int .i64 v127))] [.box [.d (.cx .f32 (0 : Nat) (0 : Nat)), .d (.cx .f32 (0 : Nat) (0 : Nat)), .d (.cx .f32 (0 : Nat) (0 : Nat)), .row 1 v72.length 0 v72.length, .row 2 v73.length 0 v73.length], .row 8 (v72.map eSBus), .row 5 (v73.map eSTie), .box [.d (.str (bstr v123)), .d (.int .i64 v124), .d (.bool v125)], .box [.d (.cx .f32 x49.1.A.re x49.1.A.im), .d (.cx .f32 x49.1.B.re x49.1.B.im), .d (.cx .f32 x49.1.C.re x49.1.C.im), .row 5 v77.length 0 v77.length, .row 6 v126.length 0 v126.length], .row 8 (v77.map eSBus), .row 5 (v126.map eSTie)] f34.ntmps 0) (fun (m135, v123, v124, v125, v126, v127) => m_impl_loadGrid_l5 n s_ x49 v77 x120 m135 v123 v124 v125 v126 v127 = some r) (fun x => x.1) (n, x120.2.s, x120.2.at_, x120.2.short, v78, (0 : Int)) h (weak_ofP [0, 1, 2, 3, 4, 5, 6] (l := [(0, .d (.str (bstr s_))), (2, .ptr 0 0), (5, .ptr 3 0), (6, .ptr 4 0), (29, .d (.int .i64 x120.1)), (30, .d (.int .i64 (0 : Int)))]) (objs := [.box [.d (.cx .f32 (0 : Nat) (0 : Nat)), .d (.cx .f32 (0 : Nat) (0 : Nat)), .d (.cx .f32 (0 : Nat) (0 : Nat)), .row 1 v72.length 0 v72.length, .row 2 v73.length 0 v73.length], .row 8 (v72.map eSBus), .row 5 (v73.map eSTie), .box [.d (.str (bstr x120.2.s)), .d (.int .i64 x120.2.at_), .d (.bool x120.2.short)], .box [.d (.cx .f32 x49.1.A.re x49.1.A.im), .d (.cx .f32 x49.1.B.re x49.1.B.im), .d (.cx .f32 x49.1.C.re x49.1.C.im), .row 5 v77.length 0 v77.length, .row 6 v78.length 0 v78.length], .row 8 (v77.map eSBus), .row 5 (v78.map eSTie)]) rfl (by simp) rfl (by repeat' first | exact trivial | refine ⟨?_, ?_⟩) ⟨rfl, trivial, rfl, trivial, rfl, trivial, rfl, trivial, rfl, trivial, rfl, trivial, trivial⟩) ?_
        rintro ⟨m135, v123, v124, v125, v126, v127⟩ h
        replace h : m_impl_loadGrid_l5 n s_ x49 v77 x120 m135 v123 v124 v125 v126 v127 = some r := h
        rcases m135 with _ | m135
        · rw [m_impl_loadGrid_l5] at h; cases h
        rw [m_impl_loadGrid_l5] at h
        refine aw_seq ?_
        refine aw_region ?_
        refine awl_val hτ rfl rfl rfl ?_
        refine awl_nil ?_
        refine aw_seq ?_
        refine aw_cond rfl (fun hc137 => ?_) (fun hc137 => ?_)
        · have h := if_t h hc137
          refine aw_skip ?_
          refine aw_seq ?_
          refine aw_block ?_
          refine any_start ?_
          refine any_val hτ [4] 0 rfl rfl rfl rfl rfl ?_
          refine any_val hτ [4] 1 rfl rfl rfl rfl rfl ?_
          refine bnd_elim h fun x138 hx138 h => ?_
          refine any_callP hτ false [3] [0, 1, 2, 4, 5, 6] 2 rfl rfl rfl rfl (enterOk func82 rfl rfl) rfl rfl (by simp) ⟨trivial, trivial⟩ (by repeat' first | exact trivial | refine ⟨?_, ?_⟩) (impl_reader_tie_ok n (SReader.mk v123 v124 v125) hx138) ⟨rfl, rfl, rfl, rfl, rfl, rfl, trivial⟩ ?_
          refine any_valHP hτ [0, 1, 2, 3, 4, 5, 6] 3 rfl rfl rfl rfl ⟨rfl, rfl, rfl, rfl, rfl, rfl, rfl, trivial⟩ ?_
          refine grd_elim h fun hg139 h => ?_
          refine any_needHP hτ [0, 1, 2, 3, 4, 5, 7] 4 rfl rfl rfl (Eq.trans rfl (or_append (f := eSTie) v126 [x138.1] rfl)) ⟨⟨rfl, Nat.le_of_ble_eq_true rfl⟩, len_map _, rfl, rfl, hg139, by decide, (all1 rfl)⟩ ⟨rfl, rfl, rfl, rfl, rfl, rfl, rfl, trivial⟩ ?_
          refine any_val hτ [4] 5 rfl rfl rfl rfl rfl ?_
          refine any_valHP hτ [0, 1, 2, 3, 5, 6, 7] 6 rfl rfl rfl rfl ⟨rfl, rfl, rfl, rfl, rfl, rfl, rfl, trivial⟩ ?_
          refine any_done mixed (by kernel_rfl) ?_
          refine aw_weak (weak_ofP [0, 1, 2, 3, 4, 5, 6] (l := [(0, .d (.str (bstr s_))), (2, .ptr 0 0), (5, .ptr 3 0), (6, .ptr 4 0), (29, .d (.int .i64 x120.1)), (30, .d (.int .i64 v127))]) (objs := [.box [.d (.cx .f32 (0 : Nat) (0 : Nat)), .d (.cx .f32 (0 : Nat) (0 : Nat)), .d (.cx .f32 (0 : Nat) (0 : Nat)), .row 1 v72.length 0 v72.length, .row 2 v73.length 0 v73.length], .row 8 (v72.map eSBus), .row 5 (v73.map eSTie), .box [.d (.str (bstr x138.2.s)), .d (.int .i64 x138.2.at_), .d (.bool x138.2.short)], .box [.d (.cx .f32 x49.1.A.re x49.1.A.im), .d (.cx .f32 x49.1.B.re x49.1.B.im), .d (.cx .f32 x49.1.C.re x49.1.C.im), .row 5 v77.length 0 v77.length, .row 6 ((v126 ++ [x138.1]).length) 0 ((v126 ++ [x138.1]).length)], .row 8 (v77.map eSBus), .row 5 ((v126 ++ [x138.1]).map eSTie)]) rfl (by simp) rfl (by repeat' first | exact trivial | refine ⟨?_, ?_⟩) ⟨rfl, trivial, rfl, trivial, rfl, trivial, rfl, trivial, rfl, trivial, rfl, trivial, trivial⟩) ?_
          refine aw_region ?_
          refine awl_val hτ rfl rfl rfl ?_
          refine awl_val hτ rfl rfl rfl ?_
          refine awl_nil ?_
          exact ⟨(m135, x138.2.s, x138.2.at_, x138.2.short, (v126 ++ [x138.1]), (w64 (v127 + (1 : Int)))), h, Nat.lt_succ_self m135, (weak_ofP [0, 1, 2, 3, 4, 5, 6] (l := [(0, .d (.str (bstr s_))), (2, .ptr 0 0), (5, .ptr 3 0), (6, .ptr 4 0), (29, .d (.int .i64 x120.1)), (30, .d (.int .i64 (w64 (v127 + (1 : Int)))))]) (objs := [.box [.d (.cx .f32 (0 : Nat) (0 : Nat)), .d (.cx .f32 (0 : Nat) (0 : Nat)), .d (.cx .f32 (0 : Nat) (0 : Nat)), .row 1 v72.length 0 v72.length, .row 2 v73.length 0 v73.length], .row 8 (v72.map eSBus), .row 5 (v73.map eSTie), .box [.d (.str (bstr x138.2.s)), .d (.int .i64 x138.2.at_), .d (.bool x138.2.short)], .box [.d (.cx .f32 x49.1.A.re x49.1.A.im), .d (.cx .f32 x49.1.B.re x49.1.B.im), .d (.cx .f32 x49.1.C.re x49.1.C.im), .row 5 v77.length 0 v77.length, .row 6 ((v126 ++ [x138.1]).length) 0 ((v126 ++ [x138.1]).length)], .row 8 (v77.map eSBus), .row 5 ((v126 ++ [x138.1]).map eSTie)]) rfl (by simp) rfl (by repeat' first | exact trivial | refine ⟨?_, ?_⟩) ⟨rfl, trivial, rfl, trivial, rfl, trivial, rfl, trivial, rfl, trivial, rfl, trivial, trivial⟩)⟩
        · have h := if_f h hc137
          refine aw_exit ?_
          refine aw_weak (weak_ofP [0, 1, 2, 3, 4, 5, 6] (l := [(0, .d (.str (bstr s_))), (2, .ptr 0 0), (5, .ptr 3 0), (6, .ptr 4 0)]) (objs := [.box [.d (.cx .f32 (0 : Nat) (0 : Nat)), .d (.cx .f32 (0 : Nat) (0 : Nat)), .d (.cx .f32 (0 : Nat) (0 : Nat)), .row 1 v72.length 0 v72.length, .row 2 v73.length 0 v73.length], .row 8 (v72.map eSBus), .row 5 (v73.map eSTie), .box [.d (.str (bstr v123)), .d (.int .i64 v124), .d (.bool v125)], .box [.d (.cx .f32 x49.1.A.re x49.1.A.im), .d (.cx .f32 x49.1.B.re x49.1.B.im), .d (.cx .f32 x49.1.C.re x49.1.C.im), .row 5 v77.length 0 v77.length, .row 6 v126.length 0 v126.length], .row 8 (v77.map eSBus), .row 5 (v126.map eSTie)]) rfl (by simp) rfl (by repeat' first | exact trivial | refine ⟨?_, ?_⟩) ⟨rfl, trivial, rfl, trivial, rfl, trivial, rfl, trivial, trivial⟩) ?_
          exact hk119 (v123, v124, v125, v126) h
    · refine aw_seq ?_
      refine aw_seq ?_
      refine aw_weak (weak_ofP [0, 1, 2] (l := [(0, .d (.str (bstr s_))), (2, .ptr 0 0), (5, .ptr 1 0), (6, .ptr 2 0)]) (objs := [.box [.d (.cx .f32 (0 : Nat) (0 : Nat)), .d (.cx .f32 (0 : Nat) (0 : Nat)), .d (.cx .f32 (0 : Nat) (0 : Nat)), .d (.nils), .d (.nils)], .box [.d (.str (bstr x49.2.s)), .d (.int .i64 x49.2.at_), .d (.bool x49.2.short)], .box [.d (.cx .f32 x49.1.A.re x49.1.A.im), .d (.cx .f32 x49.1.B.re x49.1.B.im), .d (.cx .f32 x49.1.C.re x49.1.C.im), .d (.nils), .d (.nils)]]) rfl (by simp) rfl (by repeat' first | exact trivial | refine ⟨?_, ?_⟩) ⟨rfl, trivial, rfl, trivial, rfl, trivial, rfl, trivial, trivial⟩) ?_
      refine aw_region ?_
      refine bnd_elim h fun x141 hx141 h => ?_
      refine awl_callP hτ false [1] rfl rfl rfl (enterOk func80 rfl rfl) rfl rfl (by simp) ⟨trivial, trivial, trivial⟩ (by repeat' first | exact trivial | refine ⟨?_, ?_⟩) (impl_reader_number_ok n x49.2 (1 : Int) hx141) ?_
      rintro r0 o0 n0 ⟨rfl, rfl, rfl⟩ -
      refine awl_val hτ rfl rfl rfl ?_
      refine awl_nil ?_
      refine aw_block ?_
      refine aw_loop (ι := Nat × List SBus × List STie × Str × Int × Bool × List SBus × List STie × Int) (fun (m163, v145, v146, v147, v148, v149, v150, v151, v152) => St.of [(0, .d (.str (bstr s_))), (2, .ptr 0 0), (5, .ptr 3 0), (6, .ptr 4 0), (17, .d (.int .i64 x141.1)), (18, .d (.int .i64 v152))] [.box [.d (.cx .f32 (0 : Nat) (0 : Nat)), .d (.cx .f32 (0 : Nat) (0 : Nat)), .d (.cx .f32 (0 : Nat) (0 : Nat)), .row 1 v145.length 0 v145.length, .row 2 v146.length 0 v146.length], .row 8 (v145.map eSBus), .row 5 (v146.map eSTie), .box [.d (.str (bstr v147)), .d (.int .i64 v148), .d (.bool v149)], .box [.d (.cx .f32 x49.1.A.re x49.1.A.im), .d (.cx .f32 x49.1.B.re x49.1.B.im), .d (.cx .f32 x49.1.C.re x49.1.C.im), .row 5 v150.length 0 v150.length, .row 6 v151.length 0 v151.length], .row 8 (v150.map eSBus), .row 5 (v151.map eSTie)] f34.ntmps 0) (fun (m163, v145, v146, v147, v148, v149, v150, v151, v152) => m_impl_loadGrid_l6 n s_ x49 x141 m163 v145 v146 v147 v148 v149 v150 v151 v152 = some r) (fun x => x.1) (n, ([] : List SBus), ([] : List STie), x141.2.s, x141.2.at_, x141.2.short, ([] : List SBus), ([] : List STie), (0 : Int)) h (Weak.trans (Weak.trans (weak_ofP [0, 1, 2] (l := [(0, .d (.str (bstr s_))), (2, .ptr 0 0), (5, .ptr 1 0), (6, .ptr 2 0), (17, .d (.int .i64 x141.1)), (18, .d (.int .i64 (0 : Int)))]) (objs := [.box [.d (.cx .f32 (0 : Nat) (0 : Nat)), .d (.cx .f32 (0 : Nat) (0 : Nat)), .d (.cx .f32 (0 : Nat) (0 : Nat)), .d (.nils), .d (.nils)], .box [.d (.str (bstr x141.2.s)), .d (.int .i64 x141.2.at_), .d (.bool x141.2.short)], .box [.d (.cx .f32 x49.1.A.re x49.1.A.im), .d (.cx .f32 x49.1.B.re x49.1.B.im), .d (.cx .f32 x49.1.C.re x49.1.C.im), .d (.nils), .d (.nils)]]) rfl (by simp) rfl (by repeat' first | exact trivial | refine ⟨?_, ?_⟩) ⟨rfl, trivial, rfl, trivial, rfl, trivial, rfl, trivial, rfl, trivial, rfl, trivial, trivial⟩) (weak_relax [8, 5, 8, 5] (l' := [(0, .d (.str (bstr s_))), (2, .ptr 0 0), (5, .ptr 1 0), (6, .ptr 2 0), (17, .d (.int .i64 x141.1)), (18, .d (.int .i64 (0 : Int)))]) (objs' := [.box [.d (.cx .f32 (0 : Nat) (0 : Nat)), .d (.cx .f32 (0 : Nat) (0 : Nat)), .d (.cx .f32 (0 : Nat) (0 : Nat)), .row 3 (([] : List SBus).length) 0 (([] : List SBus).length), .row 4 (([] : List STie).length) 0 (([] : List STie).length)], .box [.d (.str (bstr x141.2.s)), .d (.int .i64 x141.2.at_), .d (.bool x141.2.short)], .box [.d (.cx .f32 x49.1.A.re x49.1.A.im), .d (.cx .f32 x49.1.B.re x49.1.B.im), .d (.cx .f32 x49.1.C.re x49.1.C.im), .row 5 (([] : List SBus).length) 0 (([] : List SBus).length), .row 6 (([] : List STie).length) 0 (([] : List STie).length)]]) (.cons (.c (.refl _)) (.cons (.c (.refl _)) (.cons (.c (.refl _)) (.cons (.c (.refl _)) (.cons (.c (.refl _)) (.cons (.c (.refl _)) .nil)))))) (.cons (.box (.cons (.refl _) (.cons (.refl _) (.cons (.refl _) (.cons (.ghost ⟨Nat.le_of_ble_eq_true rfl, Nat.le_of_ble_eq_true rfl⟩) (.cons (.ghost ⟨Nat.le_of_ble_eq_true rfl, Nat.le_of_ble_eq_true rfl⟩) .nil)))))) (.cons (.refl _) (.cons (.box (.cons (.refl _) (.cons (.refl _) (.cons (.refl _) (.cons (.ghost ⟨Nat.le_of_ble_eq_true rfl, Nat.le_of_ble_eq_true rfl⟩) (.cons (.ghost ⟨Nat.le_of_ble_eq_true rfl, Nat.le_of_ble_eq_true rfl⟩) .nil)))))) .nil))))) (weak_ofP [0, 3, 4, 1, 2, 5, 6] (l := [(0, .d (.str (bstr s_))), (2, .ptr 0 0), (5, .ptr 3 0), (6, .ptr 4 0), (17, .d (.int .i64 x141.1)), (18, .d (.int .i64 (0 : Int)))]) (objs := [.box [.d (.cx .f32 (0 : Nat) (0 : Nat)), .d (.cx .f32 (0 : Nat) (0 : Nat)), .d (.cx .f32 (0 : Nat) (0 : Nat)), .row 1 (([] : List SBus).length) 0 (([] : List SBus).length), .row 2 (([] : List STie).length) 0 (([] : List STie).length)], .row 8 (([] : List SBus).map eSBus), .row 5 (([] : List STie).map eSTie), .box [.d (.str (bstr x141.2.s)), .d (.int .i64 x141.2.at_), .d (.bool x141.2.short)], .box [.d (.cx .f32 x49.1.A.re x49.1.A.im), .d (.cx .f32 x49.1.B.re x49.1.B.im), .d (.cx .f32 x49.1.C.re x49.1.C.im), .row 5 (([] : List SBus).length) 0 (([] : List SBus).length), .row 6 (([] : List STie).length) 0 (([] : List STie).length)], .row 8 (([] : List SBus).map eSBus), .row 5 (([] : List STie).map eSTie)]) rfl (by simp) rfl (by repeat' first | exact trivial | refine ⟨?_, ?_⟩) ⟨rfl, trivial, rfl, trivial, rfl, trivial, rfl, trivial, rfl, trivial, rfl, trivial, trivial⟩)) ?_
      rintro ⟨m163, v145, v146, v147, v148, v149, v150, v151, v152⟩ h
      replace h : m_impl_loadGrid_l6 n s_ x49 x141 m163 v145 v146 v147 v148 v149 v150 v151 v152 = some r := h
      rcases m163 with _ | m163
      · rw [m_impl_loadGrid_l6] at h; cases h
      rw [m_impl_loadGrid_l6] at h
      refine aw_seq ?_
      refine aw_region ?_
      refine awl_val hτ rfl rfl rfl ?_
      refine awl_nil ?_
      refine aw_seq ?_
      refine aw_cond rfl (fun hc165 => ?_) (fun hc165 => ?_)
      · have h := if_t h hc165
        refine aw_skip ?_
        refine aw_seq ?_
        refine aw_block ?_
        refine any_start ?_
        refine any_val hτ [4] 0 rfl rfl rfl rfl rfl ?_
        refine any_val hτ [4] 1 rfl rfl rfl rfl rfl ?_
        refine any_val hτ [4] 2 rfl rfl rfl rfl rfl ?_
        refine bnd_elim h fun x166 hx166 h => ?_
        refine any_callP hτ false [3] [0, 1, 2, 4, 5, 6] 3 rfl rfl rfl rfl (enterOk func81 rfl rfl) rfl rfl (by simp) ⟨trivial, trivial⟩ (by repeat' first | exact trivial | refine ⟨?_, ?_⟩) (impl_reader_bus_ok n (SReader.mk v147 v148 v149) hx166) ⟨rfl, rfl, rfl, rfl, rfl, rfl, trivial⟩ ?_
        refine any_valHP hτ [0, 1, 2, 3, 4, 5, 6] 4 rfl rfl rfl rfl ⟨rfl, rfl, rfl, rfl, rfl, rfl, rfl, trivial⟩ ?_
        refine grd_elim h fun hg167 h => ?_
        refine any_needHP hτ [0, 1, 2, 3, 4, 6, 7] 5 rfl rfl rfl (Eq.trans rfl (or_append (f := eSBus) v150 [x166.1] rfl)) ⟨⟨rfl, Nat.le_of_ble_eq_true rfl⟩, len_map _, rfl, rfl, hg167, by decide, (all1 rfl)⟩ ⟨rfl, rfl, rfl, rfl, rfl, rfl, rfl, trivial⟩ ?_
        refine any_val hτ [4] 6 rfl rfl rfl rfl rfl ?_
        refine any_val hτ [4] 7 rfl rfl rfl rfl rfl ?_
        refine any_valHP hτ [0, 1, 2, 3, 5, 6, 7] 8 rfl rfl rfl rfl ⟨rfl, rfl, rfl, rfl, rfl, rfl, rfl, trivial⟩ ?_
        refine any_done mixed (by kernel_rfl) ?_
        refine aw_weak (weak_ofP [0, 1, 2, 3, 4, 5, 6] (l := [(0, .d (.str (bstr s_))), (2, .ptr 0 0), (5, .ptr 3 0), (6, .ptr 4 0), (17, .d (.int .i64 x141.1)), (18, .d (.int .i64 v152))]) (objs := [.box [.d (.cx .f32 (0 : Nat) (0 : Nat)), .d (.cx .f32 (0 : Nat) (0 : Nat)), .d (.cx .f32 (0 : Nat) (0 : Nat)), .row 1 v145.length 0 v145.length, .row 2 v146.length 0 v146.length], .row 8 (v145.map eSBus), .row 5 (v146.map eSTie), .box [.d (.str (bstr x166.2.s)), .d (.int .i64 x166.2.at_), .d (.bool x166.2.short)], .box [.d (.cx .f32 x49.1.A.re x49.1.A.im), .d (.cx .f32 x49.1.B.re x49.1.B.im), .d (.cx .f32 x49.1.C.re x49.1.C.im), .row 5 ((v150 ++ [x166.1]).length) 0 ((v150 ++ [x166.1]).length), .row 6 v151.length 0 v151.length], .row 8 ((v150 ++ [x166.1]).map eSBus), .row 5 (v151.map eSTie)]) rfl (by simp) rfl (by repeat' first | exact trivial | refine ⟨?_, ?_⟩) ⟨rfl, trivial, rfl, trivial, rfl, trivial, rfl, trivial, rfl, trivial, rfl, trivial, trivial⟩) ?_
        refine aw_region ?_
        refine awl_val hτ rfl rfl rfl ?_
        refine awl_val hτ rfl rfl rfl ?_
        refine awl_nil ?_
        exact ⟨(m163, v145, v146, x166.2.s, x166.2.at_, x166.2.short, (v150 ++ [x166.1]), v151, (w64 (v152 + (1 : Int)))), h, Nat.lt_succ_self m163, (weak_ofP [0, 1, 2, 3, 4, 5, 6] (l := [(0, .d (.str (bstr s_))), (2, .ptr 0 0), (5, .ptr 3 0), (6, .ptr 4 0), (17, .d (.int .i64 x141.1)), (18, .d (.int .i64 (w64 (v152 + (1 : Int)))))]) (objs := [.box [.d (.cx .f32 (0 : Nat) (0 : Nat)), .d (.cx .f32 (0 : Nat) (0 : Nat)), .d (.cx .f32 (0 : Nat) (0 : Nat)), .row 1 v145.length 0 v145.length, .row 2 v146.length 0 v146.length], .row 8 (v145.map eSBus), .row 5 (v146.map eSTie), .box [.d (.str (bstr x166.2.s)), .d (.int .i64 x166.2.at_), .d (.bool x166.2.short)], .box [.d (.cx .f32 x49.1.A.re x49.1.A.im), .d (.cx .f32 x49.1.B.re x49.1.B.im), .d (.cx .f32 x49.1.C.re x49.1.C.im), .row 5 ((v150 ++ [x166.1]).length) 0 ((v150 ++ [x166.1]).length), .row 6 v151.length 0 v151.length], .row 8 ((v150 ++ [x166.1]).map eSBus), .row 5 (v151.map eSTie)]) rfl (by simp) rfl (by repeat' first | exact trivial | refine ⟨?_, ?_⟩) ⟨rfl, trivial, rfl, trivial, rfl, trivial, rfl, trivial, rfl, trivial, rfl, trivial, trivial⟩)⟩
      · have h := if_f h hc165
        refine aw_exit ?_
        refine aw_weak (weak_ofP [0, 1, 2, 3, 4, 5, 6] (l := [(0, .d (.str (bstr s_))), (2, .ptr 0 0), (5, .ptr 3 0), (6, .ptr 4 0)]) (objs := [.box [.d (.cx .f32 (0 : Nat) (0 : Nat)), .d (.cx .f32 (0 : Nat) (0 : Nat)), .d (.cx .f32 (0 : Nat) (0 : Nat)), .row 1 v145.length 0 v145.length, .row 2 v146.length 0 v146.length], .row 8 (v145.map eSBus), .row 5 (v146.map eSTie), .box [.d (.str (bstr v147)), .d (.int .i64 v148), .d (.bool v149)], .box [.d (.cx .f32 x49.1.A.re x49.1.A.im), .d (.cx .f32 x49.1.B.re x49.1.B.im), .d (.cx .f32 x49.1.C.re x49.1.C.im), .row 5 v150.length 0 v150.length, .row 6 v151.length 0 v151.length], .row 8 (v150.map eSBus), .row 5 (v151.map eSTie)]) rfl (by simp) rfl (by repeat' first | exact trivial | refine ⟨?_, ?_⟩) ⟨rfl, trivial, rfl, trivial, rfl, trivial, rfl, trivial, trivial⟩) ?_
        exact hk140 (v145, v146, v147, v148, v149, v150, v151) h
theorem impl_loadGrid_ok (n : Nat) (s_ : Str) {r : SGrid × Int × Bool} (h : m_impl_loadGrid n s_ = some r) : ACall prog false 34 [.d (.str (bstr s_))] [] (fun v o new => v = .tup [.agg [.d (.cx .f32 r.1.Feeder.Source.A.re r.1.Feeder.Source.A.im), .d (.cx .f32 r.1.Feeder.Source.B.re r.1.Feeder.Source.B.im), .d (.cx .f32 r.1.Feeder.Source.C.re r.1.Feeder.Source.C.im), .row 0 r.1.Feeder.Buses.length 0 r.1.Feeder.Buses.length, .row 1 r.1.Ties.length 0 r.1.Ties.length], .d (.int .i64 r.2.1), .d (.bool r.2.2)] ∧ o = [] ∧ new = [.row 8 (r.1.Feeder.Buses.map eSBus), .row 5 (r.1.Ties.map eSTie)]) := impl_loadGrid_ok_fr0 false n s_ h
theorem impl_loadGrid_ok_fr (n : Nat) (s_ : Str) {r : SGrid × Int × Bool} (h : m_impl_loadGrid n s_ = some r) : ACall prog true 34 [.d (.str (bstr s_))] [] (fun v o new => v = .tup [.agg [.d (.cx .f32 r.1.Feeder.Source.A.re r.1.Feeder.Source.A.im), .d (.cx .f32 r.1.Feeder.Source.B.re r.1.Feeder.Source.B.im), .d (.cx .f32 r.1.Feeder.Source.C.re r.1.Feeder.Source.C.im), .row 0 r.1.Feeder.Buses.length 0 r.1.Feeder.Buses.length, .row 1 r.1.Ties.length 0 r.1.Ties.length], .d (.int .i64 r.2.1), .d (.bool r.2.2)] ∧ o = [] ∧ new = [.row 8 (r.1.Feeder.Buses.map eSBus), .row 5 (r.1.Ties.map eSTie)]) := impl_loadGrid_ok_fr0 true n s_ h

def m_impl_LoadGrid_j1 (n : Nat) (x4 : SGrid × Int × Bool) : Option (SGrid × Bool) :=
  some ((SGrid.mk (SFeeder.mk x4.1.Feeder.Source x4.1.Feeder.Buses) x4.1.Ties), true)
def m_impl_LoadGrid_j2 (n : Nat) (x4 : SGrid × Int × Bool) (v10 : Bool) : Option (SGrid × Bool) :=
  if v10 = true then
    some ((SGrid.mk (SFeeder.mk (SPhases.mk (Cx.mk (0 : Nat) (0 : Nat)) (Cx.mk (0 : Nat) (0 : Nat)) (Cx.mk (0 : Nat) (0 : Nat))) ([] : List SBus)) ([] : List STie)), false)
  else
    m_impl_LoadGrid_j1 n x4
def m_impl_LoadGrid (n : Nat) (s_ : Str) : Option (SGrid × Bool) :=
  (m_impl_loadGrid n s_).bind fun x4 =>
  if x4.2.2 = true then
    m_impl_LoadGrid_j2 n x4 (!(decide (x4.2.1 = (s_.length : Int))))
  else
    m_impl_LoadGrid_j2 n x4 true
theorem impl_LoadGrid_ok_fr0 (fr : Bool) (n : Nat) (s_ : Str) {r : SGrid × Bool} (h : m_impl_LoadGrid n s_ = some r) : ACall prog fr 8 [.d (.str (bstr s_))] [] (fun v o new => v = .tup [.agg [.d (.cx .f32 r.1.Feeder.Source.A.re r.1.Feeder.Source.A.im), .d (.cx .f32 r.1.Feeder.Source.B.re r.1.Feeder.Source.B.im), .d (.cx .f32 r.1.Feeder.Source.C.re r.1.Feeder.Source.C.im), .row 0 r.1.Feeder.Buses.length 0 r.1.Feeder.Buses.length, .row 1 r.1.Ties.length 0 r.1.Ties.length], .d (.bool r.2)] ∧ o = [] ∧ new = [.row 8 (r.1.Feeder.Buses.map eSBus), .row 5 (r.1.Ties.map eSTie)]) := by
  refine acall_of_aw hτ func8 rfl (by simp) (by simp) ?_
  unfold m_impl_LoadGrid at h
  refine aw_seq ?_
  refine aw_region ?_
  refine awl_valH hτ rfl rfl rfl ?_
  refine awl_val hτ rfl rfl rfl ?_
  refine awl_nil ?_
  refine aw_seq ?_
  refine aw_region ?_
  refine awl_val hτ rfl rfl rfl ?_
  refine bnd_elim h fun x4 hx4 h => ?_
  refine awl_callP hτ false [] rfl rfl rfl (enterOk func34 rfl rfl) rfl rfl (by simp) ⟨trivial, trivial⟩ (by repeat' first | exact trivial | refine ⟨?_, ?_⟩) (impl_loadGrid_ok n s_ hx4) ?_
  rintro r0 o0 n0 ⟨rfl, rfl, rfl⟩ -
  refine awl_val hτ rfl rfl rfl ?_
  refine awl_val hτ rfl rfl rfl ?_
  refine awl_val hτ rfl rfl rfl ?_
  refine awl_val hτ rfl rfl rfl ?_
  refine awl_valH hτ rfl rfl rfl ?_
  refine awl_valH hτ rfl rfl rfl ?_
  refine awl_val hτ rfl rfl rfl ?_
  refine awl_val hτ rfl rfl rfl ?_
  refine awl_nil ?_
  refine aw_hk1 (ι := Unit) (fun _ => St.of [(2, .ptr 0 0), (4, .ptr 1 0)] [.box [.d (.cx .f32 (0 : Nat) (0 : Nat)), .d (.cx .f32 (0 : Nat) (0 : Nat)), .d (.cx .f32 (0 : Nat) (0 : Nat)), .d (.nils), .d (.nils)], .box [.d (.cx .f32 x4.1.Feeder.Source.A.re x4.1.Feeder.Source.A.im), .d (.cx .f32 x4.1.Feeder.Source.B.re x4.1.Feeder.Source.B.im), .d (.cx .f32 x4.1.Feeder.Source.C.re x4.1.Feeder.Source.C.im), .row 2 x4.1.Feeder.Buses.length 0 x4.1.Feeder.Buses.length, .row 3 x4.1.Ties.length 0 x4.1.Ties.length], .row 8 (x4.1.Feeder.Buses.map eSBus), .row 5 (x4.1.Ties.map eSTie)] f8.ntmps 0) (fun _ => m_impl_LoadGrid_j1 n x4 = some r) ?_ (fun hk7 => ?_)
  · rintro ⟨⟩ h
    replace h : m_impl_LoadGrid_j1 n x4 = some r := h
    unfold m_impl_LoadGrid_j1 at h
    refine aw_seq ?_
    refine aw_region ?_
    refine awl_val hτ rfl rfl rfl ?_
    refine awl_valH hτ rfl rfl rfl ?_
    refine awl_val hτ rfl rfl rfl ?_
    refine awl_nil ?_
    refine aw_weak (weak_ofP [0, 2, 3] (l := [(2, .ptr 0 0), (3, .d (.bool true))]) (objs := [.box [.d (.cx .f32 x4.1.Feeder.Source.A.re x4.1.Feeder.Source.A.im), .d (.cx .f32 x4.1.Feeder.Source.B.re x4.1.Feeder.Source.B.im), .d (.cx .f32 x4.1.Feeder.Source.C.re x4.1.Feeder.Source.C.im), .row 1 x4.1.Feeder.Buses.length 0 x4.1.Feeder.Buses.length, .row 2 x4.1.Ties.length 0 x4.1.Ties.length], .row 8 (x4.1.Feeder.Buses.map eSBus), .row 5 (x4.1.Ties.map eSTie)]) rfl (by simp) rfl (by repeat' first | exact trivial | refine ⟨?_, ?_⟩) ⟨rfl, trivial, rfl, trivial, trivial⟩) ?_
    refine aw_ret ?_
    have hr := Option.some.inj h
    subst hr
    exact ret_objs (.inr rfl) [1, 2] (objs' := []) (new := [.row 8 (x4.1.Feeder.Buses.map eSBus), .row 5 (x4.1.Ties.map eSTie)]) rfl (by simp) (by simp) rfl (by repeat' first | exact trivial | refine ⟨?_, ?_⟩) rfl rfl (by repeat' first | exact trivial | refine ⟨?_, ?_⟩) (fun _ => ⟨by simp [V.flat, V.flatA, V.flatC, D.flat], (flat_cons (flat_row eSBus_flat _) (flat_cons (flat_row eSTie_flat _) flat_nil))⟩) ⟨rfl, rfl, rfl⟩
  · refine aw_seq ?_
    refine aw_hk1 (ι := Bool) (fun v10 => St.of [(2, .ptr 0 0), (4, .ptr 1 0), (20, .d (.bool v10))] [.box [.d (.cx .f32 (0 : Nat) (0 : Nat)), .d (.cx .f32 (0 : Nat) (0 : Nat)), .d (.cx .f32 (0 : Nat) (0 : Nat)), .d (.nils), .d (.nils)], .box [.d (.cx .f32 x4.1.Feeder.Source.A.re x4.1.Feeder.Source.A.im), .d (.cx .f32 x4.1.Feeder.Source.B.re x4.1.Feeder.Source.B.im), .d (.cx .f32 x4.1.Feeder.Source.C.re x4.1.Feeder.Source.C.im), .row 2 x4.1.Feeder.Buses.length 0 x4.1.Feeder.Buses.length, .row 3 x4.1.Ties.length 0 x4.1.Ties.length], .row 8 (x4.1.Feeder.Buses.map eSBus), .row 5 (x4.1.Ties.map eSTie)] f8.ntmps 0) (fun v10 => m_impl_LoadGrid_j2 n x4 v10 = some r) ?_ (fun hk12 => ?_)
    · rintro v10 h
      replace h : m_impl_LoadGrid_j2 n x4 v10 = some r := h
      unfold m_impl_LoadGrid_j2 at h
      refine aw_cond rfl (fun hc11 => ?_) (fun hc11 => ?_)
      · have h := if_bt h hc11
        refine aw_seq ?_
        refine aw_region ?_
        refine awl_val hτ rfl rfl rfl ?_
        refine awl_valH hτ rfl rfl rfl ?_
        refine awl_val hτ rfl rfl rfl ?_
        refine awl_nil ?_
        refine aw_weak (weak_ofP [0] (l := [(2, .ptr 0 0), (3, .d (.bool false))]) (objs := [.box [.d (.cx .f32 (0 : Nat) (0 : Nat)), .d (.cx .f32 (0 : Nat) (0 : Nat)), .d (.cx .f32 (0 : Nat) (0 : Nat)), .d (.nils), .d (.nils)]]) rfl (by simp) rfl (by repeat' first | exact trivial | refine ⟨?_, ?_⟩) ⟨rfl, trivial, rfl, trivial, trivial⟩) ?_
        refine aw_weak (weak_relax [8, 5] (l' := [(2, .ptr 0 0), (3, .d (.bool false))]) (objs' := [.box [.d (.cx .f32 (0 : Nat) (0 : Nat)), .d (.cx .f32 (0 : Nat) (0 : Nat)), .d (.cx .f32 (0 : Nat) (0 : Nat)), .row 1 (([] : List SBus).length) 0 (([] : List SBus).length), .row 2 (([] : List STie).length) 0 (([] : List STie).length)]]) (.cons (.c (.refl _)) (.cons (.c (.refl _)) .nil)) (.cons (.box (.cons (.refl _) (.cons (.refl _) (.cons (.refl _) (.cons (.ghost ⟨Nat.le_of_ble_eq_true rfl, Nat.le_of_ble_eq_true rfl⟩) (.cons (.ghost ⟨Nat.le_of_ble_eq_true rfl, Nat.le_of_ble_eq_true rfl⟩) .nil)))))) .nil)) ?_
        refine aw_ret ?_
        have hr := Option.some.inj h
        subst hr
        exact ret_objs (.inr rfl) [1, 2] (objs' := []) (new := [.row 8 (([] : List SBus).map eSBus), .row 5 (([] : List STie).map eSTie)]) rfl (by simp) (by simp) rfl (by repeat' first | exact trivial | refine ⟨?_, ?_⟩) rfl rfl (by repeat' first | exact trivial | refine ⟨?_, ?_⟩) (fun _ => ⟨by simp [V.flat, V.flatA, V.flatC, D.flat], (flat_cons (flat_row eSBus_flat _) (flat_cons (flat_row eSTie_flat _) flat_nil))⟩) ⟨rfl, rfl, rfl⟩
      · have h := if_bf h hc11
        refine aw_skip ?_
        refine aw_weak (weak_ofP [0, 1, 2, 3] (l := [(2, .ptr 0 0), (4, .ptr 1 0)]) (objs := [.box [.d (.cx .f32 (0 : Nat) (0 : Nat)), .d (.cx .f32 (0 : Nat) (0 : Nat)), .d (.cx .f32 (0 : Nat) (0 : Nat)), .d (.nils), .d (.nils)], .box [.d (.cx .f32 x4.1.Feeder.Source.A.re x4.1.Feeder.Source.A.im), .d (.cx .f32 x4.1.Feeder.Source.B.re x4.1.Feeder.Source.B.im), .d (.cx .f32 x4.1.Feeder.Source.C.re x4.1.Feeder.Source.C.im), .row 2 x4.1.Feeder.Buses.length 0 x4.1.Feeder.Buses.length, .row 3 x4.1.Ties.length 0 x4.1.Ties.length], .row 8 (x4.1.Feeder.Buses.map eSBus), .row 5 (x4.1.Ties.map eSTie)]) rfl (by simp) rfl (by repeat' first | exact trivial | refine ⟨?_, ?_⟩) ⟨rfl, trivial, rfl, trivial, trivial⟩) ?_
        exact hk7 () h
    · refine aw_seq ?_
      refine aw_weak (weak_ofP [0, 3, 1, 2] (l := [(0, .d (.str (bstr s_))), (2, .ptr 0 0), (4, .ptr 1 0), (5, .d (.int .i64 x4.2.1)), (6, .d (.bool x4.2.2))]) (objs := [.box [.d (.cx .f32 (0 : Nat) (0 : Nat)), .d (.cx .f32 (0 : Nat) (0 : Nat)), .d (.cx .f32 (0 : Nat) (0 : Nat)), .d (.nils), .d (.nils)], .box [.d (.cx .f32 x4.1.Feeder.Source.A.re x4.1.Feeder.Source.A.im), .d (.cx .f32 x4.1.Feeder.Source.B.re x4.1.Feeder.Source.B.im), .d (.cx .f32 x4.1.Feeder.Source.C.re x4.1.Feeder.Source.C.im), .row 2 x4.1.Feeder.Buses.length 0 x4.1.Feeder.Buses.length, .row 3 x4.1.Ties.length 0 x4.1.Ties.length], .row 8 (x4.1.Feeder.Buses.map eSBus), .row 5 (x4.1.Ties.map eSTie)]) rfl (by simp) rfl (by repeat' first | exact trivial | refine ⟨?_, ?_⟩) ⟨rfl, trivial, rfl, trivial, rfl, trivial, rfl, trivial, rfl, trivial, trivial⟩) ?_
      refine aw_region ?_
      refine awl_val hτ rfl rfl rfl ?_
      refine awl_val hτ rfl rfl rfl ?_
      refine awl_val hτ rfl rfl rfl ?_
      refine awl_split 15 rfl (fun hb13 => ?_) (fun hb13 => ?_)
      · have hb13 := not_t hb13
        have h := if_bf h hb13
        refine awl_skip rfl rfl ?_
        refine awl_skip rfl rfl ?_
        refine awl_skip rfl rfl ?_
        refine awl_skip rfl rfl ?_
        refine awl_val hτ rfl rfl rfl ?_
        refine awl_nil ?_
        refine aw_weak (weak_ofP [0, 1, 2, 3] (l := [(2, .ptr 0 0), (4, .ptr 1 0), (20, .d (.bool true))]) (objs := [.box [.d (.cx .f32 (0 : Nat) (0 : Nat)), .d (.cx .f32 (0 : Nat) (0 : Nat)), .d (.cx .f32 (0 : Nat) (0 : Nat)), .d (.nils), .d (.nils)], .box [.d (.cx .f32 x4.1.Feeder.Source.A.re x4.1.Feeder.Source.A.im), .d (.cx .f32 x4.1.Feeder.Source.B.re x4.1.Feeder.Source.B.im), .d (.cx .f32 x4.1.Feeder.Source.C.re x4.1.Feeder.Source.C.im), .row 2 x4.1.Feeder.Buses.length 0 x4.1.Feeder.Buses.length, .row 3 x4.1.Ties.length 0 x4.1.Ties.length], .row 8 (x4.1.Feeder.Buses.map eSBus), .row 5 (x4.1.Ties.map eSTie)]) rfl (by simp) rfl (by repeat' first | exact trivial | refine ⟨?_, ?_⟩) ⟨rfl, trivial, rfl, trivial, rfl, trivial, trivial⟩) ?_
        exact hk12 true h
      · have hb13 := not_f hb13
        have h := if_bt h hb13
        refine awl_val hτ rfl rfl rfl ?_
        refine awl_val hτ rfl rfl rfl ?_
        refine awl_val hτ rfl rfl rfl ?_
        refine awl_val hτ (v := .d (.bool (!(decide (x4.2.1 = (s_.length : Int)))))) rfl rfl (or_ine _ _) ?_
        refine awl_val hτ rfl rfl rfl ?_
        refine awl_nil ?_
        refine aw_weak (weak_ofP [0, 1, 2, 3] (l := [(2, .ptr 0 0), (4, .ptr 1 0), (20, .d (.bool (!(decide (x4.2.1 = (s_.length : Int))))))]) (objs := [.box [.d (.cx .f32 (0 : Nat) (0 : Nat)), .d (.cx .f32 (0 : Nat) (0 : Nat)), .d (.cx .f32 (0 : Nat) (0 : Nat)), .d (.nils), .d (.nils)], .box [.d (.cx .f32 x4.1.Feeder.Source.A.re x4.1.Feeder.Source.A.im), .d (.cx .f32 x4.1.Feeder.Source.B.re x4.1.Feeder.Source.B.im), .d (.cx .f32 x4.1.Feeder.Source.C.re x4.1.Feeder.Source.C.im), .row 2 x4.1.Feeder.Buses.length 0 x4.1.Feeder.Buses.length, .row 3 x4.1.Ties.length 0 x4.1.Ties.length], .row 8 (x4.1.Feeder.Buses.map eSBus), .row 5 (x4.1.Ties.map eSTie)]) rfl (by simp) rfl (by repeat' first | exact trivial | refine ⟨?_, ?_⟩) ⟨rfl, trivial, rfl, trivial, rfl, trivial, trivial⟩) ?_
        exact hk12 (!(decide (x4.2.1 = (s_.length : Int)))) h
theorem impl_LoadGrid_ok (n : Nat) (s_ : Str) {r : SGrid × Bool} (h : m_impl_LoadGrid n s_ = some r) : ACall prog false 8 [.d (.str (bstr s_))] [] (fun v o new => v = .tup [.agg [.d (.cx .f32 r.1.Feeder.Source.A.re r.1.Feeder.Source.A.im), .d (.cx .f32 r.1.Feeder.Source.B.re r.1.Feeder.Source.B.im), .d (.cx .f32 r.1.Feeder.Source.C.re r.1.Feeder.Source.C.im), .row 0 r.1.Feeder.Buses.length 0 r.1.Feeder.Buses.length, .row 1 r.1.Ties.length 0 r.1.Ties.length], .d (.bool r.2)] ∧ o = [] ∧ new = [.row 8 (r.1.Feeder.Buses.map eSBus), .row 5 (r.1.Ties.map eSTie)]) := impl_LoadGrid_ok_fr0 false n s_ h
theorem impl_LoadGrid_ok_fr (n : Nat) (s_ : Str) {r : SGrid × Bool} (h : m_impl_LoadGrid n s_ = some r) : ACall prog true 8 [.d (.str (bstr s_))] [] (fun v o new => v = .tup [.agg [.d (.cx .f32 r.1.Feeder.Source.A.re r.1.Feeder.Source.A.im), .d (.cx .f32 r.1.Feeder.Source.B.re r.1.Feeder.Source.B.im), .d (.cx .f32 r.1.Feeder.Source.C.re r.1.Feeder.Source.C.im), .row 0 r.1.Feeder.Buses.length 0 r.1.Feeder.Buses.length, .row 1 r.1.Ties.length 0 r.1.Ties.length], .d (.bool r.2)] ∧ o = [] ∧ new = [.row 8 (r.1.Feeder.Buses.map eSBus), .row 5 (r.1.Ties.map eSTie)]) := impl_LoadGrid_ok_fr0 true n s_ h

def m_laws_sameFloat_j2 (n : Nat) (a_ : Nat) (b_ : Nat) : Option Bool :=
  some (fcmp .eql .f64 a_ b_)
def m_laws_sameFloat_j3 (n : Nat) (a_ : Nat) (b_ : Nat) (v16 : Bool) : Option Bool :=
  if v16 = true then
    some ((fcmp .gtr .f64 (farith .quo .f64 (4607182418800017408 : Nat) a_) (0 : Nat)) == (fcmp .gtr .f64 (farith .quo .f64 (4607182418800017408 : Nat) b_) (0 : Nat)))
  else
    m_laws_sameFloat_j2 n a_ b_
def m_laws_sameFloat_j1 (n : Nat) (a_ : Nat) (b_ : Nat) : Option Bool :=
  if (fcmp .eql .f64 a_ (0 : Nat)) = true then
    m_laws_sameFloat_j3 n a_ b_ (fcmp .eql .f64 b_ (0 : Nat))
  else
    m_laws_sameFloat_j3 n a_ b_ false
def m_laws_sameFloat_j4 (n : Nat) (a_ : Nat) (b_ : Nat) (v23 : Bool) : Option Bool :=
  if v23 = true then
    if (fcmp .neq .f64 a_ a_) = true then
      some (fcmp .neq .f64 b_ b_)
    else
      some false
  else
    m_laws_sameFloat_j1 n a_ b_
def m_laws_sameFloat (n : Nat) (a_ : Nat) (b_ : Nat) : Option Bool :=
  if (fcmp .neq .f64 a_ a_) = true then
    m_laws_sameFloat_j4 n a_ b_ true
  else
    m_laws_sameFloat_j4 n a_ b_ (fcmp .neq .f64 b_ b_)
theorem laws_sameFloat_ok_fr0 (fr : Bool) (n : Nat) (a_ : Nat) (b_ : Nat) {r : Bool} (h : m_laws_sameFloat n a_ b_ = some r) : ACall prog fr 159 [.d (.fl .f64 a_), .d (.fl .f64 b_)] [] (fun v o new => v = .d (.bool r) ∧ o = [] ∧ new = []) := by
  refine acall_of_aw hτ func159 rfl (by simp) (by simp) ?_
  unfold m_laws_sameFloat at h
  refine aw_seq ?_
  refine aw_region ?_
  refine awl_val hτ rfl rfl rfl ?_
  refine awl_nil ?_
  refine aw_hk1 (ι := Unit) (fun _ => St.of [(0, .d (.fl .f64 a_)), (1, .d (.fl .f64 b_))] [] f159.ntmps 0) (fun _ => m_laws_sameFloat_j1 n a_ b_ = some r) ?_ (fun hk20 => ?_)
  · rintro ⟨⟩ h
    replace h : m_laws_sameFloat_j1 n a_ b_ = some r := h
    unfold m_laws_sameFloat_j1 at h
    refine aw_hk1 (ι := Unit) (fun _ => St.of [(0, .d (.fl .f64 a_)), (1, .d (.fl .f64 b_))] [] f159.ntmps 0) (fun _ => m_laws_sameFloat_j2 n a_ b_ = some r) ?_ (fun hk13 => ?_)
    · rintro ⟨⟩ h
      replace h : m_laws_sameFloat_j2 n a_ b_ = some r := h
      unfold m_laws_sameFloat_j2 at h
      refine aw_seq ?_
      refine aw_region ?_
      refine awl_val hτ rfl rfl rfl ?_
      refine awl_val hτ rfl rfl rfl ?_
      refine awl_val hτ rfl rfl rfl ?_
      refine awl_val hτ rfl rfl rfl ?_
      refine awl_nil ?_
      refine aw_weak (weak_ofP [] (l := [(4, .d (.bool (fcmp .eql .f64 a_ b_)))]) (objs := []) rfl (by simp) rfl (by repeat' first | exact trivial | refine ⟨?_, ?_⟩) ⟨rfl, trivial, trivial⟩) ?_
      refine aw_ret ?_
      have hr := Option.some.inj h
      subst hr
      exact ret_objs (.inr rfl) [] (objs' := []) (new := []) rfl (by simp) (by simp) rfl (by repeat' first | exact trivial | refine ⟨?_, ?_⟩) rfl rfl (by repeat' first | exact trivial | refine ⟨?_, ?_⟩) (fun _ => ⟨by simp [V.flat, V.flatA, V.flatC, D.flat], flat_nil⟩) ⟨rfl, rfl, rfl⟩
    · refine aw_seq ?_
      refine aw_hk1 (ι := Bool) (fun v16 => St.of [(0, .d (.fl .f64 a_)), (1, .d (.fl .f64 b_)), (26, .d (.bool v16))] [] f159.ntmps 0) (fun v16 => m_laws_sameFloat_j3 n a_ b_ v16 = some r) ?_ (fun hk18 => ?_)
      · rintro v16 h
        replace h : m_laws_sameFloat_j3 n a_ b_ v16 = some r := h
        unfold m_laws_sameFloat_j3 at h
        refine aw_cond rfl (fun hc17 => ?_) (fun hc17 => ?_)
        · have h := if_bt h hc17
          refine aw_seq ?_
          refine aw_region ?_
          refine awl_val hτ rfl rfl rfl ?_
          refine awl_val hτ rfl rfl rfl ?_
          refine awl_val hτ rfl rfl rfl ?_
          refine awl_val hτ rfl rfl rfl ?_
          refine awl_val hτ rfl rfl rfl ?_
          refine awl_val hτ rfl rfl rfl ?_
          refine awl_val hτ rfl rfl rfl ?_
          refine awl_val hτ rfl rfl rfl ?_
          refine awl_nil ?_
          refine aw_weak (weak_ofP [] (l := [(4, .d (.bool ((fcmp .gtr .f64 (farith .quo .f64 (4607182418800017408 : Nat) a_) (0 : Nat)) == (fcmp .gtr .f64 (farith .quo .f64 (4607182418800017408 : Nat) b_) (0 : Nat)))))]) (objs := []) rfl (by simp) rfl (by repeat' first | exact trivial | refine ⟨?_, ?_⟩) ⟨rfl, trivial, trivial⟩) ?_
          refine aw_ret ?_
          have hr := Option.some.inj h
          subst hr
          exact ret_objs (.inr rfl) [] (objs' := []) (new := []) rfl (by simp) (by simp) rfl (by repeat' first | exact trivial | refine ⟨?_, ?_⟩) rfl rfl (by repeat' first | exact trivial | refine ⟨?_, ?_⟩) (fun _ => ⟨by simp [V.flat, V.flatA, V.flatC, D.flat], flat_nil⟩) ⟨rfl, rfl, rfl⟩
        · have h := if_bf h hc17
          refine aw_skip ?_
          refine aw_weak (weak_ofP [] (l := [(0, .d (.fl .f64 a_)), (1, .d (.fl .f64 b_))]) (objs := []) rfl (by simp) rfl (by repeat' first | exact trivial | refine ⟨?_, ?_⟩) ⟨rfl, trivial, rfl, trivial, trivial⟩) ?_
          exact hk13 () h
      · refine aw_seq ?_
        refine aw_region ?_
        refine awl_val hτ rfl rfl rfl ?_
        refine awl_val hτ rfl rfl rfl ?_
        refine awl_val hτ rfl rfl rfl ?_
        refine awl_split 23 rfl (fun hb19 => ?_) (fun hb19 => ?_)
        · have h := if_bt h hb19
          refine awl_val hτ rfl rfl rfl ?_
          refine awl_val hτ rfl rfl rfl ?_
          refine awl_val hτ rfl rfl rfl ?_
          refine awl_nil ?_
          refine aw_weak (weak_ofP [] (l := [(0, .d (.fl .f64 a_)), (1, .d (.fl .f64 b_)), (26, .d (.bool (fcmp .eql .f64 b_ (0 : Nat))))]) (objs := []) rfl (by simp) rfl (by repeat' first | exact trivial | refine ⟨?_, ?_⟩) ⟨rfl, trivial, rfl, trivial, rfl, trivial, trivial⟩) ?_
          exact hk18 (fcmp .eql .f64 b_ (0 : Nat)) h
        · have h := if_bf h hb19
          refine awl_skip rfl rfl ?_
          refine awl_skip rfl rfl ?_
          refine awl_val hτ rfl rfl rfl ?_
          refine awl_nil ?_
          refine aw_weak (weak_ofP [] (l := [(0, .d (.fl .f64 a_)), (1, .d (.fl .f64 b_)), (26, .d (.bool false))]) (objs := []) rfl (by simp) rfl (by repeat' first | exact trivial | refine ⟨?_, ?_⟩) ⟨rfl, trivial, rfl, trivial, rfl, trivial, trivial⟩) ?_
          exact hk18 false h
  · refine aw_seq ?_
    refine aw_hk1 (ι := Bool) (fun v23 => St.of [(0, .d (.fl .f64 a_)), (1, .d (.fl .f64 b_)), (12, .d (.bool v23))] [] f159.ntmps 0) (fun v23 => m_laws_sameFloat_j4 n a_ b_ v23 = some r) ?_ (fun hk26 => ?_)
    · rintro v23 h
      replace h : m_laws_sameFloat_j4 n a_ b_ v23 = some r := h
      unfold m_laws_sameFloat_j4 at h
      refine aw_cond rfl (fun hc24 => ?_) (fun hc24 => ?_)
      · have h := if_bt h hc24
        refine aw_seq ?_
        refine aw_region ?_
        refine awl_val hτ rfl rfl rfl ?_
        refine awl_val hτ rfl rfl rfl ?_
        refine awl_val hτ rfl rfl rfl ?_
        refine awl_val hτ rfl rfl rfl ?_
        refine awl_split 16 rfl (fun hb25 => ?_) (fun hb25 => ?_)
        · have h := if_bt h hb25
          refine awl_val hτ rfl rfl rfl ?_
          refine awl_val hτ rfl rfl rfl ?_
          refine awl_val hτ rfl rfl rfl ?_
          refine awl_val hτ rfl rfl rfl ?_
          refine awl_val hτ rfl rfl rfl ?_
          refine awl_nil ?_
          refine aw_weak (weak_ofP [] (l := [(4, .d (.bool (fcmp .neq .f64 b_ b_)))]) (objs := []) rfl (by simp) rfl (by repeat' first | exact trivial | refine ⟨?_, ?_⟩) ⟨rfl, trivial, trivial⟩) ?_
          refine aw_ret ?_
          have hr := Option.some.inj h
          subst hr
          exact ret_objs (.inr rfl) [] (objs' := []) (new := []) rfl (by simp) (by simp) rfl (by repeat' first | exact trivial | refine ⟨?_, ?_⟩) rfl rfl (by repeat' first | exact trivial | refine ⟨?_, ?_⟩) (fun _ => ⟨by simp [V.flat, V.flatA, V.flatC, D.flat], flat_nil⟩) ⟨rfl, rfl, rfl⟩
        · have h := if_bf h hb25
          refine awl_skip rfl rfl ?_
          refine awl_skip rfl rfl ?_
          refine awl_skip rfl rfl ?_
          refine awl_val hτ rfl rfl rfl ?_
          refine awl_val hτ rfl rfl rfl ?_
          refine awl_nil ?_
          refine aw_weak (weak_ofP [] (l := [(4, .d (.bool false))]) (objs := []) rfl (by simp) rfl (by repeat' first | exact trivial | refine ⟨?_, ?_⟩) ⟨rfl, trivial, trivial⟩) ?_
          refine aw_ret ?_
          have hr := Option.some.inj h
          subst hr
          exact ret_objs (.inr rfl) [] (objs' := []) (new := []) rfl (by simp) (by simp) rfl (by repeat' first | exact trivial | refine ⟨?_, ?_⟩) rfl rfl (by repeat' first | exact trivial | refine ⟨?_, ?_⟩) (fun _ => ⟨by simp [V.flat, V.flatA, V.flatC, D.flat], flat_nil⟩) ⟨rfl, rfl, rfl⟩
      · have h := if_bf h hc24
        refine aw_skip ?_
        refine aw_weak (weak_ofP [] (l := [(0, .d (.fl .f64 a_)), (1, .d (.fl .f64 b_))]) (objs := []) rfl (by simp) rfl (by repeat' first | exact trivial | refine ⟨?_, ?_⟩) ⟨rfl, trivial, rfl, trivial, trivial⟩) ?_
        exact hk20 () h
    · refine aw_seq ?_
      refine aw_region ?_
      refine awl_val hτ rfl rfl rfl ?_
      refine awl_val hτ rfl rfl rfl ?_
      refine awl_val hτ rfl rfl rfl ?_
      refine awl_val hτ rfl rfl rfl ?_
      refine awl_split 8 rfl (fun hb27 => ?_) (fun hb27 => ?_)
      · have h := if_bt h hb27
        refine awl_skip rfl rfl ?_
        refine awl_skip rfl rfl ?_
        refine awl_skip rfl rfl ?_
        refine awl_val hτ rfl rfl rfl ?_
        refine awl_nil ?_
        refine aw_weak (weak_ofP [] (l := [(0, .d (.fl .f64 a_)), (1, .d (.fl .f64 b_)), (12, .d (.bool true))]) (objs := []) rfl (by simp) rfl (by repeat' first | exact trivial | refine ⟨?_, ?_⟩) ⟨rfl, trivial, rfl, trivial, rfl, trivial, trivial⟩) ?_
        exact hk26 true h
      · have h := if_bf h hb27
        refine awl_val hτ rfl rfl rfl ?_
        refine awl_val hτ rfl rfl rfl ?_
        refine awl_val hτ rfl rfl rfl ?_
        refine awl_val hτ rfl rfl rfl ?_
        refine awl_nil ?_
        refine aw_weak (weak_ofP [] (l := [(0, .d (.fl .f64 a_)), (1, .d (.fl .f64 b_)), (12, .d (.bool (fcmp .neq .f64 b_ b_)))]) (objs := []) rfl (by simp) rfl (by repeat' first | exact trivial | refine ⟨?_, ?_⟩) ⟨rfl, trivial, rfl, trivial, rfl, trivial, trivial⟩) ?_
        exact hk26 (fcmp .neq .f64 b_ b_) h
theorem laws_sameFloat_ok (n : Nat) (a_ : Nat) (b_ : Nat) {r : Bool} (h : m_laws_sameFloat n a_ b_ = some r) : ACall prog false 159 [.d (.fl .f64 a_), .d (.fl .f64 b_)] [] (fun v o new => v = .d (.bool r) ∧ o = [] ∧ new = []) := laws_sameFloat_ok_fr0 false n a_ b_ h
theorem laws_sameFloat_ok_fr (n : Nat) (a_ : Nat) (b_ : Nat) {r : Bool} (h : m_laws_sameFloat n a_ b_ = some r) : ACall prog true 159 [.d (.fl .f64 a_), .d (.fl .f64 b_)] [] (fun v o new => v = .d (.bool r) ∧ o = [] ∧ new = []) := laws_sameFloat_ok_fr0 true n a_ b_ h

def m_laws_sameComplex (n : Nat) (a_ : Cx) (b_ : Cx) : Option Bool :=
  (m_laws_sameFloat n a_.re b_.re).bind fun x5 =>
  if x5 = true then
    (m_laws_sameFloat n a_.im b_.im).bind fun x7 =>
    some x7
  else
    some false
theorem laws_sameComplex_ok_fr0 (fr : Bool) (n : Nat) (a_ : Cx) (b_ : Cx) {r : Bool} (h : m_laws_sameComplex n a_ b_ = some r) : ACall prog fr 131 [.d (.cx .f64 a_.re a_.im), .d (.cx .f64 b_.re b_.im)] [] (fun v o new => v = .d (.bool r) ∧ o = [] ∧ new = []) := by
  refine acall_of_aw hτ func131 rfl (by simp) (by simp) ?_
  unfold m_laws_sameComplex at h
  refine aw_seq ?_
  refine aw_region ?_
  refine awl_val hτ rfl rfl rfl ?_
  refine awl_nil ?_
  refine aw_seq ?_
  refine aw_region ?_
  refine awl_val hτ rfl rfl rfl ?_
  refine awl_val hτ rfl rfl rfl ?_
  refine awl_val hτ rfl rfl rfl ?_
  refine awl_val hτ rfl rfl rfl ?_
  refine bnd_elim h fun x5 hx5 h => ?_
  refine awl_callP hτ false [] rfl rfl rfl (enterOk func159 rfl rfl) rfl rfl (by simp) ⟨trivial, trivial, trivial⟩ (by repeat' first | exact trivial | refine ⟨?_, ?_⟩) (laws_sameFloat_ok n a_.re b_.re hx5) ?_
  rintro r0 o0 n0 ⟨rfl, rfl, rfl⟩ -
  refine awl_val hτ rfl rfl rfl ?_
  refine awl_split 10 rfl (fun hb6 => ?_) (fun hb6 => ?_)
  · have h := if_bt h hb6
    refine awl_val hτ rfl rfl rfl ?_
    refine awl_val hτ rfl rfl rfl ?_
    refine awl_val hτ rfl rfl rfl ?_
    refine awl_val hτ rfl rfl rfl ?_
    refine bnd_elim h fun x7 hx7 h => ?_
    refine awl_callP hτ false [] rfl rfl rfl (enterOk func159 rfl rfl) rfl rfl (by simp) ⟨trivial, trivial, trivial⟩ (by repeat' first | exact trivial | refine ⟨?_, ?_⟩) (laws_sameFloat_ok n a_.im b_.im hx7) ?_
    rintro r0 o0 n0 ⟨rfl, rfl, rfl⟩ -
    refine awl_weak (weak_ofP [] (l := [(4, .d (.bool false)), (10, .d (.bool true)), (15, .d (.bool x7))]) (objs := []) rfl (by simp) rfl (by repeat' first | exact trivial | refine ⟨?_, ?_⟩) ⟨rfl, trivial, rfl, trivial, rfl, trivial, trivial⟩) ?_
    refine awl_val hτ rfl rfl rfl ?_
    refine awl_val hτ rfl rfl rfl ?_
    refine awl_nil ?_
    refine aw_weak (weak_ofP [] (l := [(4, .d (.bool x7))]) (objs := []) rfl (by simp) rfl (by repeat' first | exact trivial | refine ⟨?_, ?_⟩) ⟨rfl, trivial, trivial⟩) ?_
    refine aw_ret ?_
    have hr := Option.some.inj h
    subst hr
    exact ret_objs (.inr rfl) [] (objs' := []) (new := []) rfl (by simp) (by simp) rfl (by repeat' first | exact trivial | refine ⟨?_, ?_⟩) rfl rfl (by repeat' first | exact trivial | refine ⟨?_, ?_⟩) (fun _ => ⟨by simp [V.flat, V.flatA, V.flatC, D.flat], flat_nil⟩) ⟨rfl, rfl, rfl⟩
  · have h := if_bf h hb6
    refine awl_skip rfl rfl ?_
    refine awl_skip rfl rfl ?_
    refine awl_skip rfl rfl ?_
    refine awl_skip rfl rfl ?_
    refine awl_skip rfl rfl ?_
    refine awl_weak (weak_ofP [] (l := [(4, .d (.bool false)), (10, .d (.bool false)), (15, .und)]) (objs := []) rfl (by simp) rfl (by repeat' first | exact trivial | refine ⟨?_, ?_⟩) ⟨rfl, trivial, rfl, trivial, rfl, trivial, trivial⟩) ?_
    refine awl_val hτ rfl rfl rfl ?_
    refine awl_val hτ rfl rfl rfl ?_
    refine awl_nil ?_
    refine aw_weak (weak_ofP [] (l := [(4, .d (.bool false))]) (objs := []) rfl (by simp) rfl (by repeat' first | exact trivial | refine ⟨?_, ?_⟩) ⟨rfl, trivial, trivial⟩) ?_
    refine aw_ret ?_
    have hr := Option.some.inj h
    subst hr
    exact ret_objs (.inr rfl) [] (objs' := []) (new := []) rfl (by simp) (by simp) rfl (by repeat' first | exact trivial | refine ⟨?_, ?_⟩) rfl rfl (by repeat' first | exact trivial | refine ⟨?_, ?_⟩) (fun _ => ⟨by simp [V.flat, V.flatA, V.flatC, D.flat], flat_nil⟩) ⟨rfl, rfl, rfl⟩
theorem laws_sameComplex_ok (n : Nat) (a_ : Cx) (b_ : Cx) {r : Bool} (h : m_laws_sameComplex n a_ b_ = some r) : ACall prog false 131 [.d (.cx .f64 a_.re a_.im), .d (.cx .f64 b_.re b_.im)] [] (fun v o new => v = .d (.bool r) ∧ o = [] ∧ new = []) := laws_sameComplex_ok_fr0 false n a_ b_ h
theorem laws_sameComplex_ok_fr (n : Nat) (a_ : Cx) (b_ : Cx) {r : Bool} (h : m_laws_sameComplex n a_ b_ = some r) : ACall prog true 131 [.d (.cx .f64 a_.re a_.im), .d (.cx .f64 b_.re b_.im)] [] (fun v o new => v = .d (.bool r) ∧ o = [] ∧ new = []) := laws_sameComplex_ok_fr0 true n a_ b_ h

def m_laws_eqPhases (n : Nat) (a_ : SPhases) (b_ : SPhases) : Option Bool :=
  (fconv .f32 .f64 a_.A.re).bind fun x21 =>
  (fconv .f32 .f64 a_.A.im).bind fun x22 =>
  (fconv .f32 .f64 b_.A.re).bind fun x23 =>
  (fconv .f32 .f64 b_.A.im).bind fun x24 =>
  (m_laws_sameComplex n (Cx.mk x21 x22) (Cx.mk x23 x24)).bind fun x25 =>
  if x25 = true then
    (fconv .f32 .f64 a_.B.re).bind fun x32 =>
    (fconv .f32 .f64 a_.B.im).bind fun x33 =>
    (fconv .f32 .f64 b_.B.re).bind fun x34 =>
    (fconv .f32 .f64 b_.B.im).bind fun x35 =>
    (m_laws_sameComplex n (Cx.mk x32 x33) (Cx.mk x34 x35)).bind fun x36 =>
    if x36 = true then
      (fconv .f32 .f64 a_.C.re).bind fun x38 =>
      (fconv .f32 .f64 a_.C.im).bind fun x39 =>
      (fconv .f32 .f64 b_.C.re).bind fun x40 =>
      (fconv .f32 .f64 b_.C.im).bind fun x41 =>
      (m_laws_sameComplex n (Cx.mk x38 x39) (Cx.mk x40 x41)).bind fun x42 =>
      if x42 = true then
        some true
      else
        some false
    else
      some false
  else
    some false
theorem laws_eqPhases_ok_fr0 (fr : Bool) (n : Nat) (a_ : SPhases) (b_ : SPhases) {r : Bool} (h : m_laws_eqPhases n a_ b_ = some r) : ACall prog fr 85 [.agg [.d (.cx .f32 a_.A.re a_.A.im), .d (.cx .f32 a_.B.re a_.B.im), .d (.cx .f32 a_.C.re a_.C.im)], .agg [.d (.cx .f32 b_.A.re b_.A.im), .d (.cx .f32 b_.B.re b_.B.im), .d (.cx .f32 b_.C.re b_.C.im)]] [] (fun v o new => v = .d (.bool r) ∧ o = [] ∧ new = []) := by
  refine acall_of_aw hτ func85 rfl (by simp) (by simp) ?_
  unfold m_laws_eqPhases at h
  refine aw_seq ?_
  refine aw_region ?_
  refine awl_valH hτ rfl rfl rfl ?_
  refine awl_valH hτ rfl rfl rfl ?_
  refine awl_val hτ rfl rfl rfl ?_
  refine awl_nil ?_
  refine aw_seq ?_
  refine aw_seq ?_
  refine aw_region ?_
  refine awl_val hτ rfl rfl rfl ?_
  refine awl_val hτ rfl rfl rfl ?_
  refine bnd_elim h fun x21 hx21 h => ?_
  refine bnd_elim h fun x22 hx22 h => ?_
  refine awl_x rfl rfl (x_c2c hτ rfl rfl rfl rfl rfl rfl hx21 hx22) ?_
  refine awl_val hτ rfl rfl rfl ?_
  refine awl_val hτ rfl rfl rfl ?_
  refine bnd_elim h fun x23 hx23 h => ?_
  refine bnd_elim h fun x24 hx24 h => ?_
  refine awl_x rfl rfl (x_c2c hτ rfl rfl rfl rfl rfl rfl hx23 hx24) ?_
  refine bnd_elim h fun x25 hx25 h => ?_
  refine awl_callP hτ false [] rfl rfl rfl (enterOk func131 rfl rfl) rfl rfl (by simp) ⟨trivial, trivial, trivial⟩ (by repeat' first | exact trivial | refine ⟨?_, ?_⟩) (laws_sameComplex_ok n (Cx.mk x21 x22) (Cx.mk x23 x24) hx25) ?_
  rintro r0 o0 n0 ⟨rfl, rfl, rfl⟩ -
  refine awl_val hτ rfl rfl rfl ?_
  refine awl_nil ?_
  refine aw_weak (weak_ofP [0, 1] (l := [(2, .ptr 0 0), (3, .ptr 1 0), (12, .d (.bool (!x25)))]) (objs := [.box [.d (.cx .f32 a_.A.re a_.A.im), .d (.cx .f32 a_.B.re a_.B.im), .d (.cx .f32 a_.C.re a_.C.im)], .box [.d (.cx .f32 b_.A.re b_.A.im), .d (.cx .f32 b_.B.re b_.B.im), .d (.cx .f32 b_.C.re b_.C.im)]]) rfl (by simp) rfl (by repeat' first | exact trivial | refine ⟨?_, ?_⟩) ⟨rfl, trivial, rfl, trivial, rfl, trivial, trivial⟩) ?_
  refine aw_cond rfl (fun hc26 => ?_) (fun hc26 => ?_)
  · have hc26 := not_t hc26
    have h := if_bf h hc26
    refine aw_seq ?_
    refine aw_region ?_
    refine awl_val hτ rfl rfl rfl ?_
    refine awl_nil ?_
    refine aw_weak (weak_ofP [] (l := [(4, .d (.bool false))]) (objs := []) rfl (by simp) rfl (by repeat' first | exact trivial | refine ⟨?_, ?_⟩) ⟨rfl, trivial, trivial⟩) ?_
    refine aw_ret ?_
    have hr := Option.some.inj h
    subst hr
    exact ret_objs (.inr rfl) [] (objs' := []) (new := []) rfl (by simp) (by simp) rfl (by repeat' first | exact trivial | refine ⟨?_, ?_⟩) rfl rfl (by repeat' first | exact trivial | refine ⟨?_, ?_⟩) (fun _ => ⟨by simp [V.flat, V.flatA, V.flatC, D.flat], flat_nil⟩) ⟨rfl, rfl, rfl⟩
  · have hc26 := not_f hc26
    have h := if_bt h hc26
    refine aw_skip ?_
    refine aw_seq ?_
    refine aw_seq ?_
    refine aw_region ?_
    refine awl_val hτ rfl rfl rfl ?_
    refine awl_val hτ rfl rfl rfl ?_
    refine bnd_elim h fun x32 hx32 h => ?_
    refine bnd_elim h fun x33 hx33 h => ?_
    refine awl_x rfl rfl (x_c2c hτ rfl rfl rfl rfl rfl rfl hx32 hx33) ?_
    refine awl_val hτ rfl rfl rfl ?_
    refine awl_val hτ rfl rfl rfl ?_
    refine bnd_elim h fun x34 hx34 h => ?_
    refine bnd_elim h fun x35 hx35 h => ?_
    refine awl_x rfl rfl (x_c2c hτ rfl rfl rfl rfl rfl rfl hx34 hx35) ?_
    refine bnd_elim h fun x36 hx36 h => ?_
    refine awl_callP hτ false [] rfl rfl rfl (enterOk func131 rfl rfl) rfl rfl (by simp) ⟨trivial, trivial, trivial⟩ (by repeat' first | exact trivial | refine ⟨?_, ?_⟩) (laws_sameComplex_ok n (Cx.mk x32 x33) (Cx.mk x34 x35) hx36) ?_
    rintro r0 o0 n0 ⟨rfl, rfl, rfl⟩ -
    refine awl_val hτ rfl rfl rfl ?_
    refine awl_nil ?_
    refine aw_weak (weak_ofP [0, 1] (l := [(2, .ptr 0 0), (3, .ptr 1 0), (20, .d (.bool (!x36)))]) (objs := [.box [.d (.cx .f32 a_.A.re a_.A.im), .d (.cx .f32 a_.B.re a_.B.im), .d (.cx .f32 a_.C.re a_.C.im)], .box [.d (.cx .f32 b_.A.re b_.A.im), .d (.cx .f32 b_.B.re b_.B.im), .d (.cx .f32 b_.C.re b_.C.im)]]) rfl (by simp) rfl (by repeat' first | exact trivial | refine ⟨?_, ?_⟩) ⟨rfl, trivial, rfl, trivial, rfl, trivial, trivial⟩) ?_
    refine aw_cond rfl (fun hc37 => ?_) (fun hc37 => ?_)
    · have hc37 := not_t hc37
      have h := if_bf h hc37
      refine aw_seq ?_
      refine aw_region ?_
      refine awl_val hτ rfl rfl rfl ?_
      refine awl_nil ?_
      refine aw_weak (weak_ofP [] (l := [(4, .d (.bool false))]) (objs := []) rfl (by simp) rfl (by repeat' first | exact trivial | refine ⟨?_, ?_⟩) ⟨rfl, trivial, trivial⟩) ?_
      refine aw_ret ?_
      have hr := Option.some.inj h
      subst hr
      exact ret_objs (.inr rfl) [] (objs' := []) (new := []) rfl (by simp) (by simp) rfl (by repeat' first | exact trivial | refine ⟨?_, ?_⟩) rfl rfl (by repeat' first | exact trivial | refine ⟨?_, ?_⟩) (fun _ => ⟨by simp [V.flat, V.flatA, V.flatC, D.flat], flat_nil⟩) ⟨rfl, rfl, rfl⟩
    · have hc37 := not_f hc37
      have h := if_bt h hc37
      refine aw_skip ?_
      refine aw_seq ?_
      refine aw_seq ?_
      refine aw_region ?_
      refine awl_val hτ rfl rfl rfl ?_
      refine awl_val hτ rfl rfl rfl ?_
      refine bnd_elim h fun x38 hx38 h => ?_
      refine bnd_elim h fun x39 hx39 h => ?_
      refine awl_x rfl rfl (x_c2c hτ rfl rfl rfl rfl rfl rfl hx38 hx39) ?_
      refine awl_val hτ rfl rfl rfl ?_
      refine awl_val hτ rfl rfl rfl ?_
      refine bnd_elim h fun x40 hx40 h => ?_
      refine bnd_elim h fun x41 hx41 h => ?_
      refine awl_x rfl rfl (x_c2c hτ rfl rfl rfl rfl rfl rfl hx40 hx41) ?_
      refine bnd_elim h fun x42 hx42 h => ?_
      refine awl_callP hτ false [] rfl rfl rfl (enterOk func131 rfl rfl) rfl rfl (by simp) ⟨trivial, trivial, trivial⟩ (by repeat' first | exact trivial | refine ⟨?_, ?_⟩) (laws_sameComplex_ok n (Cx.mk x38 x39) (Cx.mk x40 x41) hx42) ?_
      rintro r0 o0 n0 ⟨rfl, rfl, rfl⟩ -
      refine awl_val hτ rfl rfl rfl ?_
      refine awl_nil ?_
      refine aw_weak (weak_ofP [] (l := [(28, .d (.bool (!x42)))]) (objs := []) rfl (by simp) rfl (by repeat' first | exact trivial | refine ⟨?_, ?_⟩) ⟨rfl, trivial, trivial⟩) ?_
      refine aw_cond rfl (fun hc43 => ?_) (fun hc43 => ?_)
      · have hc43 := not_t hc43
        have h := if_bf h hc43
        refine aw_seq ?_
        refine aw_region ?_
        refine awl_val hτ rfl rfl rfl ?_
        refine awl_nil ?_
        refine aw_weak (weak_ofP [] (l := [(4, .d (.bool false))]) (objs := []) rfl (by simp) rfl (by repeat' first | exact trivial | refine ⟨?_, ?_⟩) ⟨rfl, trivial, trivial⟩) ?_
        refine aw_ret ?_
        have hr := Option.some.inj h
        subst hr
        exact ret_objs (.inr rfl) [] (objs' := []) (new := []) rfl (by simp) (by simp) rfl (by repeat' first | exact trivial | refine ⟨?_, ?_⟩) rfl rfl (by repeat' first | exact trivial | refine ⟨?_, ?_⟩) (fun _ => ⟨by simp [V.flat, V.flatA, V.flatC, D.flat], flat_nil⟩) ⟨rfl, rfl, rfl⟩
      · have hc43 := not_f hc43
        have h := if_bt h hc43
        refine aw_skip ?_
        refine aw_seq ?_
        refine aw_region ?_
        refine awl_val hτ rfl rfl rfl ?_
        refine awl_nil ?_
        refine aw_weak (weak_ofP [] (l := [(4, .d (.bool true))]) (objs := []) rfl (by simp) rfl (by repeat' first | exact trivial | refine ⟨?_, ?_⟩) ⟨rfl, trivial, trivial⟩) ?_
        refine aw_ret ?_
        have hr := Option.some.inj h
        subst hr
        exact ret_objs (.inr rfl) [] (objs' := []) (new := []) rfl (by simp) (by simp) rfl (by repeat' first | exact trivial | refine ⟨?_, ?_⟩) rfl rfl (by repeat' first | exact trivial | refine ⟨?_, ?_⟩) (fun _ => ⟨by simp [V.flat, V.flatA, V.flatC, D.flat], flat_nil⟩) ⟨rfl, rfl, rfl⟩
theorem laws_eqPhases_ok (n : Nat) (a_ : SPhases) (b_ : SPhases) {r : Bool} (h : m_laws_eqPhases n a_ b_ = some r) : ACall prog false 85 [.agg [.d (.cx .f32 a_.A.re a_.A.im), .d (.cx .f32 a_.B.re a_.B.im), .d (.cx .f32 a_.C.re a_.C.im)], .agg [.d (.cx .f32 b_.A.re b_.A.im), .d (.cx .f32 b_.B.re b_.B.im), .d (.cx .f32 b_.C.re b_.C.im)]] [] (fun v o new => v = .d (.bool r) ∧ o = [] ∧ new = []) := laws_eqPhases_ok_fr0 false n a_ b_ h
theorem laws_eqPhases_ok_fr (n : Nat) (a_ : SPhases) (b_ : SPhases) {r : Bool} (h : m_laws_eqPhases n a_ b_ = some r) : ACall prog true 85 [.agg [.d (.cx .f32 a_.A.re a_.A.im), .d (.cx .f32 a_.B.re a_.B.im), .d (.cx .f32 a_.C.re a_.C.im)], .agg [.d (.cx .f32 b_.A.re b_.A.im), .d (.cx .f32 b_.B.re b_.B.im), .d (.cx .f32 b_.C.re b_.C.im)]] [] (fun v o new => v = .d (.bool r) ∧ o = [] ∧ new = []) := laws_eqPhases_ok_fr0 true n a_ b_ h

def m_laws_eqBus (n : Nat) (a_ : SBus) (b_ : SBus) : Option Bool :=
  if a_.Parent = b_.Parent then
    (fconv .f32 .f64 a_.Own.re).bind fun x18 =>
    (fconv .f32 .f64 a_.Own.im).bind fun x19 =>
    (fconv .f32 .f64 b_.Own.re).bind fun x20 =>
    (fconv .f32 .f64 b_.Own.im).bind fun x21 =>
    (m_laws_sameComplex n (Cx.mk x18 x19) (Cx.mk x20 x21)).bind fun x22 =>
    if x22 = true then
      (fconv .f32 .f64 a_.Shared.re).bind fun x29 =>
      (fconv .f32 .f64 a_.Shared.im).bind fun x30 =>
      (fconv .f32 .f64 b_.Shared.re).bind fun x31 =>
      (fconv .f32 .f64 b_.Shared.im).bind fun x32 =>
      (m_laws_sameComplex n (Cx.mk x29 x30) (Cx.mk x31 x32)).bind fun x33 =>
      if x33 = true then
        if a_.Kind = b_.Kind then
          (m_laws_eqPhases n a_.Load b_.Load).bind fun x37 =>
          if x37 = true then
            if a_.Customers = b_.Customers then
              some true
            else
              some false
          else
            some false
        else
          some false
      else
        some false
    else
      some false
  else
    some false
theorem laws_eqBus_ok_fr0 (fr : Bool) (n : Nat) (a_ : SBus) (b_ : SBus) {r : Bool} (h : m_laws_eqBus n a_ b_ = some r) : ACall prog fr 132 [.agg [.d (.int .i64 a_.Parent), .d (.cx .f32 a_.Own.re a_.Own.im), .d (.cx .f32 a_.Shared.re a_.Shared.im), .d (.int .i64 a_.Kind), .d (.cx .f32 a_.Load.A.re a_.Load.A.im), .d (.cx .f32 a_.Load.B.re a_.Load.B.im), .d (.cx .f32 a_.Load.C.re a_.Load.C.im), .d (.int .i64 a_.Customers)], .agg [.d (.int .i64 b_.Parent), .d (.cx .f32 b_.Own.re b_.Own.im), .d (.cx .f32 b_.Shared.re b_.Shared.im), .d (.int .i64 b_.Kind), .d (.cx .f32 b_.Load.A.re b_.Load.A.im), .d (.cx .f32 b_.Load.B.re b_.Load.B.im), .d (.cx .f32 b_.Load.C.re b_.Load.C.im), .d (.int .i64 b_.Customers)]] [] (fun v o new => v = .d (.bool r) ∧ o = [] ∧ new = []) := by
  refine acall_of_aw hτ func132 rfl (by simp) (by simp) ?_
  unfold m_laws_eqBus at h
  refine aw_seq ?_
  refine aw_region ?_
  refine awl_valH hτ rfl rfl rfl ?_
  refine awl_valH hτ rfl rfl rfl ?_
  refine awl_val hτ rfl rfl rfl ?_
  refine awl_nil ?_
  refine aw_seq ?_
  refine aw_seq ?_
  refine aw_region ?_
  refine awl_val hτ rfl rfl rfl ?_
  refine awl_val hτ rfl rfl rfl ?_
  refine awl_val hτ rfl rfl rfl ?_
  refine awl_val hτ rfl rfl rfl ?_
  refine awl_val hτ (v := .d (.bool (!(decide (a_.Parent = b_.Parent))))) rfl rfl (or_ine _ _) ?_
  refine awl_nil ?_
  refine aw_weak (weak_ofP [0, 1] (l := [(2, .ptr 0 0), (3, .ptr 1 0), (9, .d (.bool (!(decide (a_.Parent = b_.Parent)))))]) (objs := [.box [.d (.int .i64 a_.Parent), .d (.cx .f32 a_.Own.re a_.Own.im), .d (.cx .f32 a_.Shared.re a_.Shared.im), .d (.int .i64 a_.Kind), .d (.cx .f32 a_.Load.A.re a_.Load.A.im), .d (.cx .f32 a_.Load.B.re a_.Load.B.im), .d (.cx .f32 a_.Load.C.re a_.Load.C.im), .d (.int .i64 a_.Customers)], .box [.d (.int .i64 b_.Parent), .d (.cx .f32 b_.Own.re b_.Own.im), .d (.cx .f32 b_.Shared.re b_.Shared.im), .d (.int .i64 b_.Kind), .d (.cx .f32 b_.Load.A.re b_.Load.A.im), .d (.cx .f32 b_.Load.B.re b_.Load.B.im), .d (.cx .f32 b_.Load.C.re b_.Load.C.im), .d (.int .i64 b_.Customers)]]) rfl (by simp) rfl (by repeat' first | exact trivial | refine ⟨?_, ?_⟩) ⟨rfl, trivial, rfl, trivial, rfl, trivial, trivial⟩) ?_
  refine aw_cond rfl (fun hc12 => ?_) (fun hc12 => ?_)
  · have hc12 := not_t hc12
    have h := if_f h hc12
    refine aw_seq ?_
    refine aw_region ?_
    refine awl_val hτ rfl rfl rfl ?_
    refine awl_nil ?_
    refine aw_weak (weak_ofP [] (l := [(4, .d (.bool false))]) (objs := []) rfl (by simp) rfl (by repeat' first | exact trivial | refine ⟨?_, ?_⟩) ⟨rfl, trivial, trivial⟩) ?_
    refine aw_ret ?_
    have hr := Option.some.inj h
    subst hr
    exact ret_objs (.inr rfl) [] (objs' := []) (new := []) rfl (by simp) (by simp) rfl (by repeat' first | exact trivial | refine ⟨?_, ?_⟩) rfl rfl (by repeat' first | exact trivial | refine ⟨?_, ?_⟩) (fun _ => ⟨by simp [V.flat, V.flatA, V.flatC, D.flat], flat_nil⟩) ⟨rfl, rfl, rfl⟩
  · have hc12 := not_f hc12
    have h := if_t h hc12
    refine aw_skip ?_
    refine aw_seq ?_
    refine aw_seq ?_
    refine aw_region ?_
    refine awl_val hτ rfl rfl rfl ?_
    refine awl_val hτ rfl rfl rfl ?_
    refine bnd_elim h fun x18 hx18 h => ?_
    refine bnd_elim h fun x19 hx19 h => ?_
    refine awl_x rfl rfl (x_c2c hτ rfl rfl rfl rfl rfl rfl hx18 hx19) ?_
    refine awl_val hτ rfl rfl rfl ?_
    refine awl_val hτ rfl rfl rfl ?_
    refine bnd_elim h fun x20 hx20 h => ?_
    refine bnd_elim h fun x21 hx21 h => ?_
    refine awl_x rfl rfl (x_c2c hτ rfl rfl rfl rfl rfl rfl hx20 hx21) ?_
    refine bnd_elim h fun x22 hx22 h => ?_
    refine awl_callP hτ false [] rfl rfl rfl (enterOk func131 rfl rfl) rfl rfl (by simp) ⟨trivial, trivial, trivial⟩ (by repeat' first | exact trivial | refine ⟨?_, ?_⟩) (laws_sameComplex_ok n (Cx.mk x18 x19) (Cx.mk x20 x21) hx22) ?_
    rintro r0 o0 n0 ⟨rfl, rfl, rfl⟩ -
    refine awl_val hτ rfl rfl rfl ?_
    refine awl_nil ?_
    refine aw_weak (weak_ofP [0, 1] (l := [(2, .ptr 0 0), (3, .ptr 1 0), (17, .d (.bool (!x22)))]) (objs := [.box [.d (.int .i64 a_.Parent), .d (.cx .f32 a_.Own.re a_.Own.im), .d (.cx .f32 a_.Shared.re a_.Shared.im), .d (.int .i64 a_.Kind), .d (.cx .f32 a_.Load.A.re a_.Load.A.im), .d (.cx .f32 a_.Load.B.re a_.Load.B.im), .d (.cx .f32 a_.Load.C.re a_.Load.C.im), .d (.int .i64 a_.Customers)], .box [.d (.int .i64 b_.Parent), .d (.cx .f32 b_.Own.re b_.Own.im), .d (.cx .f32 b_.Shared.re b_.Shared.im), .d (.int .i64 b_.Kind), .d (.cx .f32 b_.Load.A.re b_.Load.A.im), .d (.cx .f32 b_.Load.B.re b_.Load.B.im), .d (.cx .f32 b_.Load.C.re b_.Load.C.im), .d (.int .i64 b_.Customers)]]) rfl (by simp) rfl (by repeat' first | exact trivial | refine ⟨?_, ?_⟩) ⟨rfl, trivial, rfl, trivial, rfl, trivial, trivial⟩) ?_
    refine aw_cond rfl (fun hc23 => ?_) (fun hc23 => ?_)
    · have hc23 := not_t hc23
      have h := if_bf h hc23
      refine aw_seq ?_
      refine aw_region ?_
      refine awl_val hτ rfl rfl rfl ?_
      refine awl_nil ?_
      refine aw_weak (weak_ofP [] (l := [(4, .d (.bool false))]) (objs := []) rfl (by simp) rfl (by repeat' first | exact trivial | refine ⟨?_, ?_⟩) ⟨rfl, trivial, trivial⟩) ?_
      refine aw_ret ?_
      have hr := Option.some.inj h
      subst hr
      exact ret_objs (.inr rfl) [] (objs' := []) (new := []) rfl (by simp) (by simp) rfl (by repeat' first | exact trivial | refine ⟨?_, ?_⟩) rfl rfl (by repeat' first | exact trivial | refine ⟨?_, ?_⟩) (fun _ => ⟨by simp [V.flat, V.flatA, V.flatC, D.flat], flat_nil⟩) ⟨rfl, rfl, rfl⟩
    · have hc23 := not_f hc23
      have h := if_bt h hc23
      refine aw_skip ?_
      refine aw_seq ?_
      refine aw_seq ?_
      refine aw_region ?_
      refine awl_val hτ rfl rfl rfl ?_
      refine awl_val hτ rfl rfl rfl ?_
      refine bnd_elim h fun x29 hx29 h => ?_
      refine bnd_elim h fun x30 hx30 h => ?_
      refine awl_x rfl rfl (x_c2c hτ rfl rfl rfl rfl rfl rfl hx29 hx30) ?_
      refine awl_val hτ rfl rfl rfl ?_
      refine awl_val hτ rfl rfl rfl ?_
      refine bnd_elim h fun x31 hx31 h => ?_
      refine bnd_elim h fun x32 hx32 h => ?_
      refine awl_x rfl rfl (x_c2c hτ rfl rfl rfl rfl rfl rfl hx31 hx32) ?_
      refine bnd_elim h fun x33 hx33 h => ?_
      refine awl_callP hτ false [] rfl rfl rfl (enterOk func131 rfl rfl) rfl rfl (by simp) ⟨trivial, trivial, trivial⟩ (by repeat' first | exact trivial | refine ⟨?_, ?_⟩) (laws_sameComplex_ok n (Cx.mk x29 x30) (Cx.mk x31 x32) hx33) ?_
      rintro r0 o0 n0 ⟨rfl, rfl, rfl⟩ -
      refine awl_val hτ rfl rfl rfl ?_
      refine awl_nil ?_
      refine aw_weak (weak_ofP [0, 1] (l := [(2, .ptr 0 0), (3, .ptr 1 0), (25, .d (.bool (!x33)))]) (objs := [.box [.d (.int .i64 a_.Parent), .d (.cx .f32 a_.Own.re a_.Own.im), .d (.cx .f32 a_.Shared.re a_.Shared.im), .d (.int .i64 a_.Kind), .d (.cx .f32 a_.Load.A.re a_.Load.A.im), .d (.cx .f32 a_.Load.B.re a_.Load.B.im), .d (.cx .f32 a_.Load.C.re a_.Load.C.im), .d (.int .i64 a_.Customers)], .box [.d (.int .i64 b_.Parent), .d (.cx .f32 b_.Own.re b_.Own.im), .d (.cx .f32 b_.Shared.re b_.Shared.im), .d (.int .i64 b_.Kind), .d (.cx .f32 b_.Load.A.re b_.Load.A.im), .d (.cx .f32 b_.Load.B.re b_.Load.B.im), .d (.cx .f32 b_.Load.C.re b_.Load.C.im), .d (.int .i64 b_.Customers)]]) rfl (by simp) rfl (by repeat' first | exact trivial | refine ⟨?_, ?_⟩) ⟨rfl, trivial, rfl, trivial, rfl, trivial, trivial⟩) ?_
      refine aw_cond rfl (fun hc34 => ?_) (fun hc34 => ?_)
      · have hc34 := not_t hc34
        have h := if_bf h hc34
        refine aw_seq ?_
        refine aw_region ?_
        refine awl_val hτ rfl rfl rfl ?_
        refine awl_nil ?_
        refine aw_weak (weak_ofP [] (l := [(4, .d (.bool false))]) (objs := []) rfl (by simp) rfl (by repeat' first | exact trivial | refine ⟨?_, ?_⟩) ⟨rfl, trivial, trivial⟩) ?_
        refine aw_ret ?_
        have hr := Option.some.inj h
        subst hr
        exact ret_objs (.inr rfl) [] (objs' := []) (new := []) rfl (by simp) (by simp) rfl (by repeat' first | exact trivial | refine ⟨?_, ?_⟩) rfl rfl (by repeat' first | exact trivial | refine ⟨?_, ?_⟩) (fun _ => ⟨by simp [V.flat, V.flatA, V.flatC, D.flat], flat_nil⟩) ⟨rfl, rfl, rfl⟩
      · have hc34 := not_f hc34
        have h := if_bt h hc34
        refine aw_skip ?_
        refine aw_seq ?_
        refine aw_seq ?_
        refine aw_region ?_
        refine awl_val hτ rfl rfl rfl ?_
        refine awl_val hτ rfl rfl rfl ?_
        refine awl_val hτ rfl rfl rfl ?_
        refine awl_val hτ rfl rfl rfl ?_
        refine awl_val hτ (v := .d (.bool (!(decide (a_.Kind = b_.Kind))))) rfl rfl (or_ine _ _) ?_
        refine awl_nil ?_
        refine aw_cond rfl (fun hc35 => ?_) (fun hc35 => ?_)
        · have hc35 := not_t hc35
          have h := if_f h hc35
          refine aw_seq ?_
          refine aw_region ?_
          refine awl_val hτ rfl rfl rfl ?_
          refine awl_nil ?_
          refine aw_weak (weak_ofP [] (l := [(4, .d (.bool false))]) (objs := []) rfl (by simp) rfl (by repeat' first | exact trivial | refine ⟨?_, ?_⟩) ⟨rfl, trivial, trivial⟩) ?_
          refine aw_ret ?_
          have hr := Option.some.inj h
          subst hr
          exact ret_objs (.inr rfl) [] (objs' := []) (new := []) rfl (by simp) (by simp) rfl (by repeat' first | exact trivial | refine ⟨?_, ?_⟩) rfl rfl (by repeat' first | exact trivial | refine ⟨?_, ?_⟩) (fun _ => ⟨by simp [V.flat, V.flatA, V.flatC, D.flat], flat_nil⟩) ⟨rfl, rfl, rfl⟩
        · have hc35 := not_f hc35
          have h := if_t h hc35
          refine aw_skip ?_
          refine aw_seq ?_
          refine aw_seq ?_
          refine aw_region ?_
          refine awl_val hτ rfl rfl rfl ?_
          refine awl_val hτ rfl rfl rfl ?_
          refine awl_val hτ rfl rfl rfl ?_
          refine awl_val hτ rfl rfl rfl ?_
          refine bnd_elim h fun x37 hx37 h => ?_
          refine awl_callP hτ false [] rfl rfl rfl (enterOk func85 rfl rfl) rfl rfl (by simp) ⟨(by repeat' first | exact trivial | refine ⟨?_, ?_⟩), (by repeat' first | exact trivial | refine ⟨?_, ?_⟩), trivial⟩ (by repeat' first | exact trivial | refine ⟨?_, ?_⟩) (laws_eqPhases_ok n a_.Load b_.Load hx37) ?_
          rintro r0 o0 n0 ⟨rfl, rfl, rfl⟩ -
          refine awl_val hτ rfl rfl rfl ?_
          refine awl_nil ?_
          refine aw_weak (weak_ofP [0, 1] (l := [(2, .ptr 0 0), (3, .ptr 1 0), (36, .d (.bool (!x37)))]) (objs := [.box [.d (.int .i64 a_.Parent), .d (.cx .f32 a_.Own.re a_.Own.im), .d (.cx .f32 a_.Shared.re a_.Shared.im), .d (.int .i64 a_.Kind), .d (.cx .f32 a_.Load.A.re a_.Load.A.im), .d (.cx .f32 a_.Load.B.re a_.Load.B.im), .d (.cx .f32 a_.Load.C.re a_.Load.C.im), .d (.int .i64 a_.Customers)], .box [.d (.int .i64 b_.Parent), .d (.cx .f32 b_.Own.re b_.Own.im), .d (.cx .f32 b_.Shared.re b_.Shared.im), .d (.int .i64 b_.Kind), .d (.cx .f32 b_.Load.A.re b_.Load.A.im), .d (.cx .f32 b_.Load.B.re b_.Load.B.im), .d (.cx .f32 b_.Load.C.re b_.Load.C.im), .d (.int .i64 b_.Customers)]]) rfl (by simp) rfl (by repeat' first | exact trivial | refine ⟨?_, ?_⟩) ⟨rfl, trivial, rfl, trivial, rfl, trivial, trivial⟩) ?_
          refine aw_cond rfl (fun hc38 => ?_) (fun hc38 => ?_)
          · have hc38 := not_t hc38
            have h := if_bf h hc38
            refine aw_seq ?_
            refine aw_region ?_
            refine awl_val hτ rfl rfl rfl ?_
            refine awl_nil ?_
            refine aw_weak (weak_ofP [] (l := [(4, .d (.bool false))]) (objs := []) rfl (by simp) rfl (by repeat' first | exact trivial | refine ⟨?_, ?_⟩) ⟨rfl, trivial, trivial⟩) ?_
            refine aw_ret ?_
            have hr := Option.some.inj h
            subst hr
            exact ret_objs (.inr rfl) [] (objs' := []) (new := []) rfl (by simp) (by simp) rfl (by repeat' first | exact trivial | refine ⟨?_, ?_⟩) rfl rfl (by repeat' first | exact trivial | refine ⟨?_, ?_⟩) (fun _ => ⟨by simp [V.flat, V.flatA, V.flatC, D.flat], flat_nil⟩) ⟨rfl, rfl, rfl⟩
          · have hc38 := not_f hc38
            have h := if_bt h hc38
            refine aw_skip ?_
            refine aw_seq ?_
            refine aw_seq ?_
            refine aw_region ?_
            refine awl_val hτ rfl rfl rfl ?_
            refine awl_val hτ rfl rfl rfl ?_
            refine awl_val hτ rfl rfl rfl ?_
            refine awl_val hτ rfl rfl rfl ?_
            refine awl_val hτ (v := .d (.bool (!(decide (a_.Customers = b_.Customers))))) rfl rfl (or_ine _ _) ?_
            refine awl_nil ?_
            refine aw_cond rfl (fun hc39 => ?_) (fun hc39 => ?_)
            · have hc39 := not_t hc39
              have h := if_f h hc39
              refine aw_seq ?_
              refine aw_region ?_
              refine awl_val hτ rfl rfl rfl ?_
              refine awl_nil ?_
              refine aw_weak (weak_ofP [] (l := [(4, .d (.bool false))]) (objs := []) rfl (by simp) rfl (by repeat' first | exact trivial | refine ⟨?_, ?_⟩) ⟨rfl, trivial, trivial⟩) ?_
              refine aw_ret ?_
              have hr := Option.some.inj h
              subst hr
              exact ret_objs (.inr rfl) [] (objs' := []) (new := []) rfl (by simp) (by simp) rfl (by repeat' first | exact trivial | refine ⟨?_, ?_⟩) rfl rfl (by repeat' first | exact trivial | refine ⟨?_, ?_⟩) (fun _ => ⟨by simp [V.flat, V.flatA, V.flatC, D.flat], flat_nil⟩) ⟨rfl, rfl, rfl⟩
            · have hc39 := not_f hc39
              have h := if_t h hc39
              refine aw_skip ?_
              refine aw_seq ?_
              refine aw_region ?_
              refine awl_val hτ rfl rfl rfl ?_
              refine awl_nil ?_
              refine aw_weak (weak_ofP [] (l := [(4, .d (.bool true))]) (objs := []) rfl (by simp) rfl (by repeat' first | exact trivial | refine ⟨?_, ?_⟩) ⟨rfl, trivial, trivial⟩) ?_
              refine aw_ret ?_
              have hr := Option.some.inj h
              subst hr
              exact ret_objs (.inr rfl) [] (objs' := []) (new := []) rfl (by simp) (by simp) rfl (by repeat' first | exact trivial | refine ⟨?_, ?_⟩) rfl rfl (by repeat' first | exact trivial | refine ⟨?_, ?_⟩) (fun _ => ⟨by simp [V.flat, V.flatA, V.flatC, D.flat], flat_nil⟩) ⟨rfl, rfl, rfl⟩
theorem laws_eqBus_ok (n : Nat) (a_ : SBus) (b_ : SBus) {r : Bool} (h : m_laws_eqBus n a_ b_ = some r) : ACall prog false 132 [.agg [.d (.int .i64 a_.Parent), .d (.cx .f32 a_.Own.re a_.Own.im), .d (.cx .f32 a_.Shared.re a_.Shared.im), .d (.int .i64 a_.Kind), .d (.cx .f32 a_.Load.A.re a_.Load.A.im), .d (.cx .f32 a_.Load.B.re a_.Load.B.im), .d (.cx .f32 a_.Load.C.re a_.Load.C.im), .d (.int .i64 a_.Customers)], .agg [.d (.int .i64 b_.Parent), .d (.cx .f32 b_.Own.re b_.Own.im), .d (.cx .f32 b_.Shared.re b_.Shared.im), .d (.int .i64 b_.Kind), .d (.cx .f32 b_.Load.A.re b_.Load.A.im), .d (.cx .f32 b_.Load.B.re b_.Load.B.im), .d (.cx .f32 b_.Load.C.re b_.Load.C.im), .d (.int .i64 b_.Customers)]] [] (fun v o new => v = .d (.bool r) ∧ o = [] ∧ new = []) := laws_eqBus_ok_fr0 false n a_ b_ h
theorem laws_eqBus_ok_fr (n : Nat) (a_ : SBus) (b_ : SBus) {r : Bool} (h : m_laws_eqBus n a_ b_ = some r) : ACall prog true 132 [.agg [.d (.int .i64 a_.Parent), .d (.cx .f32 a_.Own.re a_.Own.im), .d (.cx .f32 a_.Shared.re a_.Shared.im), .d (.int .i64 a_.Kind), .d (.cx .f32 a_.Load.A.re a_.Load.A.im), .d (.cx .f32 a_.Load.B.re a_.Load.B.im), .d (.cx .f32 a_.Load.C.re a_.Load.C.im), .d (.int .i64 a_.Customers)], .agg [.d (.int .i64 b_.Parent), .d (.cx .f32 b_.Own.re b_.Own.im), .d (.cx .f32 b_.Shared.re b_.Shared.im), .d (.int .i64 b_.Kind), .d (.cx .f32 b_.Load.A.re b_.Load.A.im), .d (.cx .f32 b_.Load.B.re b_.Load.B.im), .d (.cx .f32 b_.Load.C.re b_.Load.C.im), .d (.int .i64 b_.Customers)]] [] (fun v o new => v = .d (.bool r) ∧ o = [] ∧ new = []) := laws_eqBus_ok_fr0 true n a_ b_ h

def m_laws_eqBusS_l1 (n : Nat) (a_ : List SBus) (b_ : List SBus) : Nat → Int → Option Bool
  | 0, _ => none
  | m18 + 1, v13 =>
    if v13 < (a_.length : Int) then
      (getI a_ v13).bind fun x24 =>
      (getI b_ v13).bind fun x25 =>
      (m_laws_eqBus n x24 x25).bind fun x26 =>
      if x26 = true then
        (m_laws_eqBusS_l1 n a_ b_ m18) (w64 (v13 + (1 : Int)))
      else
        some false
    else
      some true
def m_laws_eqBusS (n : Nat) (a_ : List SBus) (b_ : List SBus) : Option Bool :=
  if (a_.length : Int) = (b_.length : Int) then
    m_laws_eqBusS_l1 n a_ b_ n (0 : Int)
  else
    some false
theorem laws_eqBusS_ok_fr0 (fr : Bool) (n : Nat) (a_ : List SBus) (b_ : List SBus) {r : Bool} (h : m_laws_eqBusS n a_ b_ = some r) : ACall prog fr 86 [.d (.sl false (a_.map eSBus)), .d (.sl false (b_.map eSBus))] [] (fun v o new => v = .d (.bool r) ∧ o = [] ∧ new = []) := by
  refine acall_of_aw hτ func86 rfl (by simp) (by simp) ?_
  unfold m_laws_eqBusS at h
  refine aw_seq ?_
  refine aw_region ?_
  refine awl_val hτ rfl rfl rfl ?_
  refine awl_nil ?_
  refine aw_seq ?_
  refine aw_seq ?_
  refine aw_region ?_
  refine awl_val hτ rfl rfl rfl ?_
  refine awl_val hτ (v := .d (.int .i64 (a_.length : Int))) rfl rfl (Eq.trans rfl (or_len (f := eSBus) a_)) ?_
  refine awl_val hτ rfl rfl rfl ?_
  refine awl_val hτ (v := .d (.int .i64 (b_.length : Int))) rfl rfl (Eq.trans rfl (or_len (f := eSBus) b_)) ?_
  refine awl_val hτ (v := .d (.bool (!(decide ((a_.length : Int) = (b_.length : Int)))))) rfl rfl (or_ine _ _) ?_
  refine awl_nil ?_
  refine aw_weak (weak_ofP [] (l := [(0, .d (.sl false (a_.map eSBus))), (1, .d (.sl false (b_.map eSBus))), (10, .d (.bool (!(decide ((a_.length : Int) = (b_.length : Int))))))]) (objs := []) rfl (by simp) rfl (by repeat' first | exact trivial | refine ⟨?_, ?_⟩) ⟨rfl, trivial, rfl, trivial, rfl, trivial, trivial⟩) ?_
  refine aw_cond rfl (fun hc9 => ?_) (fun hc9 => ?_)
  · have hc9 := not_t hc9
    have h := if_f h hc9
    refine aw_seq ?_
    refine aw_region ?_
    refine awl_val hτ rfl rfl rfl ?_
    refine awl_nil ?_
    refine aw_weak (weak_ofP [] (l := [(4, .d (.bool false))]) (objs := []) rfl (by simp) rfl (by repeat' first | exact trivial | refine ⟨?_, ?_⟩) ⟨rfl, trivial, trivial⟩) ?_
    refine aw_ret ?_
    have hr := Option.some.inj h
    subst hr
    exact ret_objs (.inr rfl) [] (objs' := []) (new := []) rfl (by simp) (by simp) rfl (by repeat' first | exact trivial | refine ⟨?_, ?_⟩) rfl rfl (by repeat' first | exact trivial | refine ⟨?_, ?_⟩) (fun _ => ⟨by simp [V.flat, V.flatA, V.flatC, D.flat], flat_nil⟩) ⟨rfl, rfl, rfl⟩
  · have hc9 := not_f hc9
    have h := if_t h hc9
    refine aw_skip ?_
    refine aw_seq ?_
    refine aw_seq ?_
    refine aw_region ?_
    refine awl_val hτ rfl rfl rfl ?_
    refine awl_nil ?_
    refine aw_block ?_
    refine aw_loop (ι := Nat × Int) (fun (m18, v13) => St.of [(0, .d (.sl false (a_.map eSBus))), (1, .d (.sl false (b_.map eSBus))), (5, .d (.int .i64 v13))] [] f86.ntmps 0) (fun (m18, v13) => m_laws_eqBusS_l1 n a_ b_ m18 v13 = some r) (fun x => x.1) (n, (0 : Int)) h (weak_ofP [] (l := [(0, .d (.sl false (a_.map eSBus))), (1, .d (.sl false (b_.map eSBus))), (5, .d (.int .i64 (0 : Int)))]) (objs := []) rfl (by simp) rfl (by repeat' first | exact trivial | refine ⟨?_, ?_⟩) ⟨rfl, trivial, rfl, trivial, rfl, trivial, trivial⟩) ?_
    rintro ⟨m18, v13⟩ h
    replace h : m_laws_eqBusS_l1 n a_ b_ m18 v13 = some r := h
    rcases m18 with _ | m18
    · rw [m_laws_eqBusS_l1] at h; cases h
    rw [m_laws_eqBusS_l1] at h
    refine aw_seq ?_
    refine aw_seq ?_
    refine aw_region ?_
    refine awl_val hτ rfl rfl rfl ?_
    refine awl_val hτ rfl rfl rfl ?_
    refine awl_val hτ (v := .d (.int .i64 (a_.length : Int))) rfl rfl (Eq.trans rfl (or_len (f := eSBus) a_)) ?_
    refine awl_val hτ rfl rfl rfl ?_
    refine awl_nil ?_
    refine aw_cond rfl (fun hc20 => ?_) (fun hc20 => ?_)
    · have h := if_t h hc20
      refine aw_skip ?_
      refine aw_seq ?_
      refine aw_block ?_
      refine aw_seq ?_
      refine any_start ?_
      refine any_val hτ [] 0 rfl rfl rfl rfl rfl ?_
      refine any_val hτ [] 1 rfl rfl rfl rfl rfl ?_
      refine bnd_elim h fun x24 hx24 h => ?_
      refine any_elem hτ [] 2 rfl rfl rfl rfl rfl (getI_some hx24).1 (map_getI hx24) rfl ?_
      refine any_val hτ [] 3 rfl rfl rfl rfl rfl ?_
      refine any_val hτ [] 4 rfl rfl rfl rfl rfl ?_
      refine any_val hτ [] 5 rfl rfl rfl rfl rfl ?_
      refine bnd_elim h fun x25 hx25 h => ?_
      refine any_elem hτ [] 6 rfl rfl rfl rfl rfl (getI_some hx25).1 (map_getI hx25) rfl ?_
      refine any_val hτ [] 7 rfl rfl rfl rfl rfl ?_
      refine bnd_elim h fun x26 hx26 h => ?_
      refine any_callP hτ false [] [] 8 rfl rfl rfl rfl (enterOk func132 rfl rfl) rfl rfl (by simp) ⟨(by repeat' first | exact trivial | refine ⟨?_, ?_⟩), (by repeat' first | exact trivial | refine ⟨?_, ?_⟩), trivial⟩ (by repeat' first | exact trivial | refine ⟨?_, ?_⟩) (laws_eqBus_ok n x24 x25 hx26) trivial ?_
      refine any_val hτ [] 9 rfl rfl rfl rfl rfl ?_
      refine any_done mixed (by kernel_rfl) ?_
      refine aw_weak (weak_ofP [] (l := [(0, .d (.sl false (a_.map eSBus))), (1, .d (.sl false (b_.map eSBus))), (5, .d (.int .i64 v13)), (26, .d (.bool (!x26)))]) (objs := []) rfl (by simp) rfl (by repeat' first | exact trivial | refine ⟨?_, ?_⟩) ⟨rfl, trivial, rfl, trivial, rfl, trivial, rfl, trivial, trivial⟩) ?_
      refine aw_cond rfl (fun hc27 => ?_) (fun hc27 => ?_)
      · have hc27 := not_t hc27
        have h := if_bf h hc27
        refine aw_seq ?_
        refine aw_region ?_
        refine awl_val hτ rfl rfl rfl ?_
        refine awl_nil ?_
        refine aw_weak (weak_ofP [] (l := [(4, .d (.bool false))]) (objs := []) rfl (by simp) rfl (by repeat' first | exact trivial | refine ⟨?_, ?_⟩) ⟨rfl, trivial, trivial⟩) ?_
        refine aw_ret ?_
        have hr := Option.some.inj h
        subst hr
        exact ret_objs (.inr rfl) [] (objs' := []) (new := []) rfl (by simp) (by simp) rfl (by repeat' first | exact trivial | refine ⟨?_, ?_⟩) rfl rfl (by repeat' first | exact trivial | refine ⟨?_, ?_⟩) (fun _ => ⟨by simp [V.flat, V.flatA, V.flatC, D.flat], flat_nil⟩) ⟨rfl, rfl, rfl⟩
      · have hc27 := not_f hc27
        have h := if_bt h hc27
        refine aw_skip ?_
        refine aw_region ?_
        refine awl_val hτ rfl rfl rfl ?_
        refine awl_val hτ rfl rfl rfl ?_
        refine awl_val hτ rfl rfl rfl ?_
        refine awl_nil ?_
        exact ⟨(m18, (w64 (v13 + (1 : Int)))), h, Nat.lt_succ_self m18, (weak_ofP [] (l := [(0, .d (.sl false (a_.map eSBus))), (1, .d (.sl false (b_.map eSBus))), (5, .d (.int .i64 (w64 (v13 + (1 : Int)))))]) (objs := []) rfl (by simp) rfl (by repeat' first | exact trivial | refine ⟨?_, ?_⟩) ⟨rfl, trivial, rfl, trivial, rfl, trivial, trivial⟩)⟩
    · have h := if_f h hc20
      refine aw_exit ?_
      refine aw_seq ?_
      refine aw_region ?_
      refine awl_val hτ rfl rfl rfl ?_
      refine awl_nil ?_
      refine aw_weak (weak_ofP [] (l := [(4, .d (.bool true))]) (objs := []) rfl (by simp) rfl (by repeat' first | exact trivial | refine ⟨?_, ?_⟩) ⟨rfl, trivial, trivial⟩) ?_
      refine aw_ret ?_
      have hr := Option.some.inj h
      subst hr
      exact ret_objs (.inr rfl) [] (objs' := []) (new := []) rfl (by simp) (by simp) rfl (by repeat' first | exact trivial | refine ⟨?_, ?_⟩) rfl rfl (by repeat' first | exact trivial | refine ⟨?_, ?_⟩) (fun _ => ⟨by simp [V.flat, V.flatA, V.flatC, D.flat], flat_nil⟩) ⟨rfl, rfl, rfl⟩
theorem laws_eqBusS_ok (n : Nat) (a_ : List SBus) (b_ : List SBus) {r : Bool} (h : m_laws_eqBusS n a_ b_ = some r) : ACall prog false 86 [.d (.sl false (a_.map eSBus)), .d (.sl false (b_.map eSBus))] [] (fun v o new => v = .d (.bool r) ∧ o = [] ∧ new = []) := laws_eqBusS_ok_fr0 false n a_ b_ h
theorem laws_eqBusS_ok_fr (n : Nat) (a_ : List SBus) (b_ : List SBus) {r : Bool} (h : m_laws_eqBusS n a_ b_ = some r) : ACall prog true 86 [.d (.sl false (a_.map eSBus)), .d (.sl false (b_.map eSBus))] [] (fun v o new => v = .d (.bool r) ∧ o = [] ∧ new = []) := laws_eqBusS_ok_fr0 true n a_ b_ h

def m_laws_eqFeeder (n : Nat) (a_ : SFeeder) (b_ : SFeeder) : Option Bool :=
  (m_laws_eqPhases n a_.Source b_.Source).bind fun x4 =>
  if x4 = true then
    (m_laws_eqBusS n a_.Buses b_.Buses).bind fun x6 =>
    if x6 = true then
      some true
    else
      some false
  else
    some false
theorem laws_eqFeeder_ok_fr0 (fr : Bool) (n : Nat) (a_ : SFeeder) (b_ : SFeeder) {r : Bool} (h : m_laws_eqFeeder n a_ b_ = some r) : ACall prog fr 35 [.agg [.d (.cx .f32 a_.Source.A.re a_.Source.A.im), .d (.cx .f32 a_.Source.B.re a_.Source.B.im), .d (.cx .f32 a_.Source.C.re a_.Source.C.im), .d (.sl false (a_.Buses.map eSBus))], .agg [.d (.cx .f32 b_.Source.A.re b_.Source.A.im), .d (.cx .f32 b_.Source.B.re b_.Source.B.im), .d (.cx .f32 b_.Source.C.re b_.Source.C.im), .d (.sl false (b_.Buses.map eSBus))]] [] (fun v o new => v = .d (.bool r) ∧ o = [] ∧ new = []) := by
  refine acall_of_aw hτ func35 rfl (by simp) (by simp) ?_
  unfold m_laws_eqFeeder at h
  refine aw_seq ?_
  refine aw_region ?_
  refine awl_valH hτ rfl rfl rfl ?_
  refine awl_valH hτ rfl rfl rfl ?_
  refine awl_val hτ rfl rfl rfl ?_
  refine awl_nil ?_
  refine aw_seq ?_
  refine aw_seq ?_
  refine aw_region ?_
  refine awl_val hτ rfl rfl rfl ?_
  refine awl_val hτ rfl rfl rfl ?_
  refine awl_val hτ rfl rfl rfl ?_
  refine awl_val hτ rfl rfl rfl ?_
  refine bnd_elim h fun x4 hx4 h => ?_
  refine awl_callP hτ false [] rfl rfl rfl (enterOk func85 rfl rfl) rfl rfl (by simp) ⟨(by repeat' first | exact trivial | refine ⟨?_, ?_⟩), (by repeat' first | exact trivial | refine ⟨?_, ?_⟩), trivial⟩ (by repeat' first | exact trivial | refine ⟨?_, ?_⟩) (laws_eqPhases_ok n a_.Source b_.Source hx4) ?_
  rintro r0 o0 n0 ⟨rfl, rfl, rfl⟩ -
  refine awl_val hτ rfl rfl rfl ?_
  refine awl_nil ?_
  refine aw_weak (weak_ofP [0, 1] (l := [(2, .ptr 0 0), (3, .ptr 1 0), (10, .d (.bool (!x4)))]) (objs := [.box [.d (.cx .f32 a_.Source.A.re a_.Source.A.im), .d (.cx .f32 a_.Source.B.re a_.Source.B.im), .d (.cx .f32 a_.Source.C.re a_.Source.C.im), .d (.sl false (a_.Buses.map eSBus))], .box [.d (.cx .f32 b_.Source.A.re b_.Source.A.im), .d (.cx .f32 b_.Source.B.re b_.Source.B.im), .d (.cx .f32 b_.Source.C.re b_.Source.C.im), .d (.sl false (b_.Buses.map eSBus))]]) rfl (by simp) rfl (by repeat' first | exact trivial | refine ⟨?_, ?_⟩) ⟨rfl, trivial, rfl, trivial, rfl, trivial, trivial⟩) ?_
  refine aw_cond rfl (fun hc5 => ?_) (fun hc5 => ?_)
  · have hc5 := not_t hc5
    have h := if_bf h hc5
    refine aw_seq ?_
    refine aw_region ?_
    refine awl_val hτ rfl rfl rfl ?_
    refine awl_nil ?_
    refine aw_weak (weak_ofP [] (l := [(4, .d (.bool false))]) (objs := []) rfl (by simp) rfl (by repeat' first | exact trivial | refine ⟨?_, ?_⟩) ⟨rfl, trivial, trivial⟩) ?_
    refine aw_ret ?_
    have hr := Option.some.inj h
    subst hr
    exact ret_objs (.inr rfl) [] (objs' := []) (new := []) rfl (by simp) (by simp) rfl (by repeat' first | exact trivial | refine ⟨?_, ?_⟩) rfl rfl (by repeat' first | exact trivial | refine ⟨?_, ?_⟩) (fun _ => ⟨by simp [V.flat, V.flatA, V.flatC, D.flat], flat_nil⟩) ⟨rfl, rfl, rfl⟩
  · have hc5 := not_f hc5
    have h := if_bt h hc5
    refine aw_skip ?_
    refine aw_seq ?_
    refine aw_seq ?_
    refine aw_region ?_
    refine awl_val hτ rfl rfl rfl ?_
    refine awl_val hτ rfl rfl rfl ?_
    refine awl_val hτ rfl rfl rfl ?_
    refine awl_val hτ rfl rfl rfl ?_
    refine bnd_elim h fun x6 hx6 h => ?_
    refine awl_callP hτ false [] rfl rfl rfl (enterOk func86 rfl rfl) rfl rfl (by simp) ⟨trivial, trivial, trivial⟩ (by repeat' first | exact trivial | refine ⟨?_, ?_⟩) (laws_eqBusS_ok n a_.Buses b_.Buses hx6) ?_
    rintro r0 o0 n0 ⟨rfl, rfl, rfl⟩ -
    refine awl_val hτ rfl rfl rfl ?_
    refine awl_nil ?_
    refine aw_weak (weak_ofP [] (l := [(16, .d (.bool (!x6)))]) (objs := []) rfl (by simp) rfl (by repeat' first | exact trivial | refine ⟨?_, ?_⟩) ⟨rfl, trivial, trivial⟩) ?_
    refine aw_cond rfl (fun hc7 => ?_) (fun hc7 => ?_)
    · have hc7 := not_t hc7
      have h := if_bf h hc7
      refine aw_seq ?_
      refine aw_region ?_
      refine awl_val hτ rfl rfl rfl ?_
      refine awl_nil ?_
      refine aw_weak (weak_ofP [] (l := [(4, .d (.bool false))]) (objs := []) rfl (by simp) rfl (by repeat' first | exact trivial | refine ⟨?_, ?_⟩) ⟨rfl, trivial, trivial⟩) ?_
      refine aw_ret ?_
      have hr := Option.some.inj h
      subst hr
      exact ret_objs (.inr rfl) [] (objs' := []) (new := []) rfl (by simp) (by simp) rfl (by repeat' first | exact trivial | refine ⟨?_, ?_⟩) rfl rfl (by repeat' first | exact trivial | refine ⟨?_, ?_⟩) (fun _ => ⟨by simp [V.flat, V.flatA, V.flatC, D.flat], flat_nil⟩) ⟨rfl, rfl, rfl⟩
    · have hc7 := not_f hc7
      have h := if_bt h hc7
      refine aw_skip ?_
      refine aw_seq ?_
      refine aw_region ?_
      refine awl_val hτ rfl rfl rfl ?_
      refine awl_nil ?_
      refine aw_weak (weak_ofP [] (l := [(4, .d (.bool true))]) (objs := []) rfl (by simp) rfl (by repeat' first | exact trivial | refine ⟨?_, ?_⟩) ⟨rfl, trivial, trivial⟩) ?_
      refine aw_ret ?_
      have hr := Option.some.inj h
      subst hr
      exact ret_objs (.inr rfl) [] (objs' := []) (new := []) rfl (by simp) (by simp) rfl (by repeat' first | exact trivial | refine ⟨?_, ?_⟩) rfl rfl (by repeat' first | exact trivial | refine ⟨?_, ?_⟩) (fun _ => ⟨by simp [V.flat, V.flatA, V.flatC, D.flat], flat_nil⟩) ⟨rfl, rfl, rfl⟩
theorem laws_eqFeeder_ok (n : Nat) (a_ : SFeeder) (b_ : SFeeder) {r : Bool} (h : m_laws_eqFeeder n a_ b_ = some r) : ACall prog false 35 [.agg [.d (.cx .f32 a_.Source.A.re a_.Source.A.im), .d (.cx .f32 a_.Source.B.re a_.Source.B.im), .d (.cx .f32 a_.Source.C.re a_.Source.C.im), .d (.sl false (a_.Buses.map eSBus))], .agg [.d (.cx .f32 b_.Source.A.re b_.Source.A.im), .d (.cx .f32 b_.Source.B.re b_.Source.B.im), .d (.cx .f32 b_.Source.C.re b_.Source.C.im), .d (.sl false (b_.Buses.map eSBus))]] [] (fun v o new => v = .d (.bool r) ∧ o = [] ∧ new = []) := laws_eqFeeder_ok_fr0 false n a_ b_ h
theorem laws_eqFeeder_ok_fr (n : Nat) (a_ : SFeeder) (b_ : SFeeder) {r : Bool} (h : m_laws_eqFeeder n a_ b_ = some r) : ACall prog true 35 [.agg [.d (.cx .f32 a_.Source.A.re a_.Source.A.im), .d (.cx .f32 a_.Source.B.re a_.Source.B.im), .d (.cx .f32 a_.Source.C.re a_.Source.C.im), .d (.sl false (a_.Buses.map eSBus))], .agg [.d (.cx .f32 b_.Source.A.re b_.Source.A.im), .d (.cx .f32 b_.Source.B.re b_.Source.B.im), .d (.cx .f32 b_.Source.C.re b_.Source.C.im), .d (.sl false (b_.Buses.map eSBus))]] [] (fun v o new => v = .d (.bool r) ∧ o = [] ∧ new = []) := laws_eqFeeder_ok_fr0 true n a_ b_ h

end Go.Proofs.Ytmllgpkgjniomaa.AWN
