/- Models and contracts, printed by program. -/
import Derived.Test.YtmllgpkgjniomaaTypes
set_option linter.unusedVariables false
set_option linter.unusedSimpArgs false
set_option linter.unusedSectionVars false
set_option maxHeartbeats 2000000
namespace Go.Proofs.Ytmllgpkgjniomaa.AWN
open Go Go.Proofs.Try

structure STie where
  A : Int
  B : Int
  Own : Cx
  Shared : Cx
  Most : Int
deriving DecidableEq
def eSTie (x : STie) : List D := [.int .i64 x.A, .int .i64 x.B, .cx .f32 x.Own.re x.Own.im, .cx .f32 x.Shared.re x.Shared.im, .int .i64 x.Most]
@[simp] theorem eSTie_len (x : STie) : (eSTie x).length = 5 := rfl
theorem eSTie_flat (x : STie) : ∀ c ∈ eSTie x, c.flat := by simp [eSTie, D.flat]
structure SL10Eyes where
  text : Str
  at_ : Int
  fine : Bool
deriving DecidableEq
structure SPhases where
  A : Cx
  B : Cx
  C : Cx
deriving DecidableEq
structure SBus where
  Parent : Int
  Own : Cx
  Shared : Cx
  Kind : Int
  Load : SPhases
  Customers : Int
deriving DecidableEq
def eSBus (x : SBus) : List D := [.int .i64 x.Parent, .cx .f32 x.Own.re x.Own.im, .cx .f32 x.Shared.re x.Shared.im, .int .i64 x.Kind, .cx .f32 x.Load.A.re x.Load.A.im, .cx .f32 x.Load.B.re x.Load.B.im, .cx .f32 x.Load.C.re x.Load.C.im, .int .i64 x.Customers]
@[simp] theorem eSBus_len (x : SBus) : (eSBus x).length = 8 := rfl
theorem eSBus_flat (x : SBus) : ∀ c ∈ eSBus x, c.flat := by simp [eSBus, D.flat]
structure SFeeder where
  Source : SPhases
  Buses : List SBus
deriving DecidableEq
structure SGrid where
  Feeder : SFeeder
  Ties : List STie
deriving DecidableEq
def eIntu8 (x : Int) : List D := [.int .u8 x]
@[simp] theorem eIntu8_len (x : Int) : (eIntu8 x).length = 1 := rfl
theorem eIntu8_flat (x : Int) : ∀ c ∈ eIntu8 x, c.flat := by simp [eIntu8, D.flat]
structure SReader where
  s : Str
  at_ : Int
  short : Bool
deriving DecidableEq

theorem ext172 {x : Int} (hx : x.toNat < 4294967296) : ExtDoes prog 172 [.d (.int .u32 x)] (.d (.fl .f32 (canon .f32 x.toNat))) := extDoes (e := Extern.MathFloatBits.float32frombits) func172 rfl rfl (by kernel_rfl) (by kernel_rfl) fun W hb H ok vals h => frombits_run (k := .f32) (fun _ => rfl) hx h
theorem ext173 {x : Nat} (hx : isnan .f32 x = false) : ExtDoes prog 173 [.d (.fl .f32 x)] (.d (.int .u32 x)) := extDoes (e := Extern.MathFloatBits.float32bits) func173 rfl rfl (by kernel_rfl) (by kernel_rfl) fun W hb H ok vals h => bits_run (fun _ => rfl) hx h
def m_spec_l10Eyes_word_j1 (n : Nat) (e_ : SL10Eyes) (size_ : Int) (v14 : Int) : Option (Int × SL10Eyes) :=
  some (v14, (SL10Eyes.mk e_.text (w64 (e_.at_ + size_)) e_.fine))
def m_spec_l10Eyes_word_l2 (n : Nat) (e_ : SL10Eyes) (size_ : Int) : Nat → Int → Int → Option (Int × SL10Eyes)
  | 0, _, _ => none
  | m22 + 1, v17, v18 =>
    if v18 ≥ (0 : Int) then
      (getI e_.text (w64 (e_.at_ + v18))).bind fun x25 =>
      (m_spec_l10Eyes_word_l2 n e_ size_ m22) (ibits .or .i64 (w64 (v17 * 2 ^ min (8 : Int).toNat (IntKind.bits .i64))) (w64 ((x25.toNat : Int)))) (w64 (v18 - (1 : Int)))
    else
      m_spec_l10Eyes_word_j1 n e_ size_ v17
def m_spec_l10Eyes_word (n : Nat) (e_ : SL10Eyes) (size_ : Int) : Option (Int × SL10Eyes) :=
  if (w64 (e_.at_ + size_)) > (e_.text.length : Int) then
    some ((0 : Int), (SL10Eyes.mk e_.text e_.at_ false))
  else
    m_spec_l10Eyes_word_l2 n e_ size_ n (0 : Int) (w64 (size_ - (1 : Int)))
theorem spec_l10Eyes_word_ok_fr0 (fr : Bool) (n : Nat) (e_ : SL10Eyes) (size_ : Int) {r : Int × SL10Eyes} (h : m_spec_l10Eyes_word n e_ size_ = some r) : ACall prog fr 73 [.ptr 0 0, .d (.int .i64 size_)] [.box [.d (.str (bstr e_.text)), .d (.int .i64 e_.at_), .d (.bool e_.fine)]] (fun v o new => v = .d (.int .i64 r.1) ∧ o = [.box [.d (.str (bstr r.2.text)), .d (.int .i64 r.2.at_), .d (.bool r.2.fine)]] ∧ new = []) := by
  refine acall_of_aw hτ func73 rfl (by simp) (by simp) ?_
  unfold m_spec_l10Eyes_word at h
  refine aw_seq ?_
  refine aw_region ?_
  refine awl_val hτ rfl rfl rfl ?_
  refine awl_nil ?_
  refine aw_seq ?_
  refine aw_region ?_
  refine awl_val hτ rfl rfl rfl ?_
  refine awl_nil ?_
  refine aw_seq ?_
  refine aw_seq ?_
  refine any_start ?_
  refine any_val hτ [] 0 rfl rfl rfl rfl rfl ?_
  refine any_val hτ [] 1 rfl rfl rfl rfl rfl ?_
  refine any_val hτ [0] 2 rfl rfl rfl rfl rfl ?_
  refine any_val hτ [0] 3 rfl rfl rfl rfl rfl ?_
  refine any_val hτ [] 4 rfl rfl rfl rfl rfl ?_
  refine any_val hτ [] 5 rfl rfl rfl rfl rfl ?_
  refine any_val hτ [] 6 rfl rfl rfl rfl rfl ?_
  refine any_val hτ [] 7 rfl rfl rfl rfl rfl ?_
  refine any_val hτ [0] 8 rfl rfl rfl rfl rfl ?_
  refine any_val hτ [0] 9 rfl rfl rfl rfl rfl ?_
  refine any_val hτ [] 10 rfl rfl rfl rfl rfl ?_
  refine any_val hτ [] 11 rfl rfl rfl rfl rfl ?_
  refine any_done mixed (by kernel_rfl) ?_
  refine aw_weak (weak_ofP [0] (l := [(0, .ptr 0 0), (1, .d (.int .i64 size_)), (5, .d (.int .i64 (0 : Int))), (18, .d (.bool (decide ((w64 (e_.at_ + size_)) > (e_.text.length : Int)))))]) (objs := [.box [.d (.str (bstr e_.text)), .d (.int .i64 e_.at_), .d (.bool e_.fine)]]) rfl (by simp) rfl (by repeat' first | exact trivial | refine ⟨?_, ?_⟩) ⟨rfl, trivial, rfl, trivial, rfl, trivial, rfl, trivial, trivial⟩) ?_
  refine aw_cond rfl (fun hc7 => ?_) (fun hc7 => ?_)
  · have h := if_t h hc7
    refine aw_seq ?_
    refine aw_region ?_
    refine awl_val hτ rfl rfl rfl ?_
    refine awl_val hτ rfl rfl rfl ?_
    refine awl_val hτ rfl rfl rfl ?_
    refine awl_valH hτ rfl rfl rfl ?_
    refine awl_nil ?_
    refine aw_seq ?_
    refine aw_region ?_
    refine awl_val hτ rfl rfl rfl ?_
    refine awl_nil ?_
    refine aw_weak (weak_ofP [0] (l := [(4, .d (.int .i64 (0 : Int)))]) (objs := [.box [.d (.str (bstr e_.text)), .d (.int .i64 e_.at_), .d (.bool false)]]) rfl (by simp) rfl (by repeat' first | exact trivial | refine ⟨?_, ?_⟩) ⟨rfl, trivial, trivial⟩) ?_
    refine aw_ret ?_
    have hr := Option.some.inj h
    subst hr
    exact ret_objs (.inr rfl) [] (objs' := [.box [.d (.str (bstr e_.text)), .d (.int .i64 e_.at_), .d (.bool false)]]) (new := []) rfl (by simp) (by simp) rfl (by repeat' first | exact trivial | refine ⟨?_, ?_⟩) rfl rfl (by repeat' first | exact trivial | refine ⟨?_, ?_⟩) (fun _ => ⟨by simp [V.flat, V.flatA, V.flatC, D.flat], (flat_cons (by simp [AObj.flat, V.flatC, D.flat]) flat_nil)⟩) ⟨rfl, rfl, rfl⟩
  · have h := if_f h hc7
    refine aw_skip ?_
    refine aw_hk1 (ι := Int) (fun v14 => St.of [(0, .ptr 0 0), (1, .d (.int .i64 size_)), (5, .d (.int .i64 v14))] [.box [.d (.str (bstr e_.text)), .d (.int .i64 e_.at_), .d (.bool e_.fine)]] f73.ntmps 1) (fun v14 => m_spec_l10Eyes_word_j1 n e_ size_ v14 = some r) ?_ (fun hk15 => ?_)
    · rintro v14 h
      replace h : m_spec_l10Eyes_word_j1 n e_ size_ v14 = some r := h
      unfold m_spec_l10Eyes_word_j1 at h
      refine aw_seq ?_
      refine aw_region ?_
      refine awl_val hτ rfl rfl rfl ?_
      refine awl_val hτ rfl rfl rfl ?_
      refine awl_val hτ rfl rfl rfl ?_
      refine awl_val hτ rfl rfl rfl ?_
      refine awl_val hτ rfl rfl rfl ?_
      refine awl_val hτ rfl rfl rfl ?_
      refine awl_val hτ rfl rfl rfl ?_
      refine awl_val hτ rfl rfl rfl ?_
      refine awl_valH hτ rfl rfl rfl ?_
      refine awl_nil ?_
      refine aw_seq ?_
      refine aw_weak (weak_ofP [0] (l := [(5, .d (.int .i64 v14))]) (objs := [.box [.d (.str (bstr e_.text)), .d (.int .i64 (w64 (e_.at_ + size_))), .d (.bool e_.fine)]]) rfl (by simp) rfl (by repeat' first | exact trivial | refine ⟨?_, ?_⟩) ⟨rfl, trivial, trivial⟩) ?_
      refine aw_region ?_
      refine awl_val hτ rfl rfl rfl ?_
      refine awl_val hτ rfl rfl rfl ?_
      refine awl_nil ?_
      refine aw_weak (weak_ofP [0] (l := [(4, .d (.int .i64 v14))]) (objs := [.box [.d (.str (bstr e_.text)), .d (.int .i64 (w64 (e_.at_ + size_))), .d (.bool e_.fine)]]) rfl (by simp) rfl (by repeat' first | exact trivial | refine ⟨?_, ?_⟩) ⟨rfl, trivial, trivial⟩) ?_
      refine aw_ret ?_
      have hr := Option.some.inj h
      subst hr
      exact ret_objs (.inr rfl) [] (objs' := [.box [.d (.str (bstr e_.text)), .d (.int .i64 (w64 (e_.at_ + size_))), .d (.bool e_.fine)]]) (new := []) rfl (by simp) (by simp) rfl (by repeat' first | exact trivial | refine ⟨?_, ?_⟩) rfl rfl (by repeat' first | exact trivial | refine ⟨?_, ?_⟩) (fun _ => ⟨by simp [V.flat, V.flatA, V.flatC, D.flat], (flat_cons (by simp [AObj.flat, V.flatC, D.flat]) flat_nil)⟩) ⟨rfl, rfl, rfl⟩
    · refine aw_seq ?_
      refine aw_seq ?_
      refine aw_region ?_
      refine awl_val hτ rfl rfl rfl ?_
      refine awl_val hτ rfl rfl rfl ?_
      refine awl_val hτ rfl rfl rfl ?_
      refine awl_nil ?_
      refine aw_block ?_
      refine aw_loop (ι := Nat × Int × Int) (fun (m22, v17, v18) => St.of [(0, .ptr 0 0), (1, .d (.int .i64 size_)), (5, .d (.int .i64 v17)), (6, .d (.int .i64 v18))] [.box [.d (.str (bstr e_.text)), .d (.int .i64 e_.at_), .d (.bool e_.fine)]] f73.ntmps 1) (fun (m22, v17, v18) => m_spec_l10Eyes_word_l2 n e_ size_ m22 v17 v18 = some r) (fun x => x.1) (n, (0 : Int), (w64 (size_ - (1 : Int)))) h (weak_ofP [0] (l := [(0, .ptr 0 0), (1, .d (.int .i64 size_)), (5, .d (.int .i64 (0 : Int))), (6, .d (.int .i64 (w64 (size_ - (1 : Int)))))]) (objs := [.box [.d (.str (bstr e_.text)), .d (.int .i64 e_.at_), .d (.bool e_.fine)]]) rfl (by simp) rfl (by repeat' first | exact trivial | refine ⟨?_, ?_⟩) ⟨rfl, trivial, rfl, trivial, rfl, trivial, rfl, trivial, trivial⟩) ?_
      rintro ⟨m22, v17, v18⟩ h
      replace h : m_spec_l10Eyes_word_l2 n e_ size_ m22 v17 v18 = some r := h
      rcases m22 with _ | m22
      · rw [m_spec_l10Eyes_word_l2] at h; cases h
      rw [m_spec_l10Eyes_word_l2] at h
      refine aw_seq ?_
      refine aw_seq ?_
      refine aw_region ?_
      refine awl_val hτ rfl rfl rfl ?_
      refine awl_val hτ rfl rfl rfl ?_
      refine awl_nil ?_
      refine aw_cond rfl (fun hc24 => ?_) (fun hc24 => ?_)
      · have h := if_t h hc24
        refine aw_skip ?_
        refine aw_seq ?_
        refine aw_block ?_
        refine any_start ?_
        refine any_val hτ [] 0 rfl rfl rfl rfl rfl ?_
        refine any_need hτ [] 1 rfl rfl rfl rfl rfl (by decide) ?_
        refine any_val hτ [] 2 rfl rfl rfl rfl rfl ?_
        refine any_val hτ [] 3 rfl rfl rfl rfl rfl ?_
        refine any_val hτ [0] 4 rfl rfl rfl rfl rfl ?_
        refine any_val hτ [0] 5 rfl rfl rfl rfl rfl ?_
        refine any_val hτ [] 6 rfl rfl rfl rfl rfl ?_
        refine any_val hτ [] 7 rfl rfl rfl rfl rfl ?_
        refine any_val hτ [0] 8 rfl rfl rfl rfl rfl ?_
        refine any_val hτ [0] 9 rfl rfl rfl rfl rfl ?_
        refine any_val hτ [] 10 rfl rfl rfl rfl rfl ?_
        refine any_val hτ [] 11 rfl rfl rfl rfl rfl ?_
        refine bnd_elim h fun x25 hx25 h => ?_
        refine any_need hτ (v := .d (.int .u8 (x25.toNat : Int))) [] 12 rfl rfl rfl rfl (Eq.trans rfl (or_sidx hx25)) (sidx_need hx25) ?_
        refine any_val hτ [] 13 rfl rfl rfl rfl rfl ?_
        refine any_val hτ [] 14 rfl rfl rfl rfl rfl ?_
        refine any_val hτ [] 15 rfl rfl rfl rfl rfl ?_
        refine any_done mixed (by kernel_rfl) ?_
        refine aw_weak (weak_ofP [0] (l := [(0, .ptr 0 0), (1, .d (.int .i64 size_)), (5, .d (.int .i64 (ibits .or .i64 (w64 (v17 * 2 ^ min (8 : Int).toNat (IntKind.bits .i64))) (w64 ((x25.toNat : Int)))))), (6, .d (.int .i64 v18))]) (objs := [.box [.d (.str (bstr e_.text)), .d (.int .i64 e_.at_), .d (.bool e_.fine)]]) rfl (by simp) rfl (by repeat' first | exact trivial | refine ⟨?_, ?_⟩) ⟨rfl, trivial, rfl, trivial, rfl, trivial, rfl, trivial, trivial⟩) ?_
        refine aw_region ?_
        refine awl_val hτ rfl rfl rfl ?_
        refine awl_val hτ rfl rfl rfl ?_
        refine awl_val hτ rfl rfl rfl ?_
        refine awl_nil ?_
        exact ⟨(m22, (ibits .or .i64 (w64 (v17 * 2 ^ min (8 : Int).toNat (IntKind.bits .i64))) (w64 ((x25.toNat : Int)))), (w64 (v18 - (1 : Int)))), h, Nat.lt_succ_self m22, (weak_ofP [0] (l := [(0, .ptr 0 0), (1, .d (.int .i64 size_)), (5, .d (.int .i64 (ibits .or .i64 (w64 (v17 * 2 ^ min (8 : Int).toNat (IntKind.bits .i64))) (w64 ((x25.toNat : Int)))))), (6, .d (.int .i64 (w64 (v18 - (1 : Int)))))]) (objs := [.box [.d (.str (bstr e_.text)), .d (.int .i64 e_.at_), .d (.bool e_.fine)]]) rfl (by simp) rfl (by repeat' first | exact trivial | refine ⟨?_, ?_⟩) ⟨rfl, trivial, rfl, trivial, rfl, trivial, rfl, trivial, trivial⟩)⟩
      · have h := if_f h hc24
        refine aw_exit ?_
        refine aw_weak (weak_ofP [0] (l := [(0, .ptr 0 0), (1, .d (.int .i64 size_)), (5, .d (.int .i64 v17))]) (objs := [.box [.d (.str (bstr e_.text)), .d (.int .i64 e_.at_), .d (.bool e_.fine)]]) rfl (by simp) rfl (by repeat' first | exact trivial | refine ⟨?_, ?_⟩) ⟨rfl, trivial, rfl, trivial, rfl, trivial, trivial⟩) ?_
        exact hk15 v17 h
theorem spec_l10Eyes_word_ok (n : Nat) (e_ : SL10Eyes) (size_ : Int) {r : Int × SL10Eyes} (h : m_spec_l10Eyes_word n e_ size_ = some r) : ACall prog false 73 [.ptr 0 0, .d (.int .i64 size_)] [.box [.d (.str (bstr e_.text)), .d (.int .i64 e_.at_), .d (.bool e_.fine)]] (fun v o new => v = .d (.int .i64 r.1) ∧ o = [.box [.d (.str (bstr r.2.text)), .d (.int .i64 r.2.at_), .d (.bool r.2.fine)]] ∧ new = []) := spec_l10Eyes_word_ok_fr0 false n e_ size_ h
theorem spec_l10Eyes_word_ok_fr (n : Nat) (e_ : SL10Eyes) (size_ : Int) {r : Int × SL10Eyes} (h : m_spec_l10Eyes_word n e_ size_ = some r) : ACall prog true 73 [.ptr 0 0, .d (.int .i64 size_)] [.box [.d (.str (bstr e_.text)), .d (.int .i64 e_.at_), .d (.bool e_.fine)]] (fun v o new => v = .d (.int .i64 r.1) ∧ o = [.box [.d (.str (bstr r.2.text)), .d (.int .i64 r.2.at_), .d (.bool r.2.fine)]] ∧ new = []) := spec_l10Eyes_word_ok_fr0 true n e_ size_ h

def m_spec_l01From (n : Nat) (n_ : Int) : Option Nat :=
  grd ((IntKind.wrap .u32 (n_)).toNat < 4294967296) <|
  some (canon .f32 (IntKind.wrap .u32 (n_)).toNat)
theorem spec_l01From_ok_fr0 (fr : Bool) (n : Nat) (n_ : Int) {r : Nat} (h : m_spec_l01From n n_ = some r) : ACall prog fr 152 [.d (.int .i64 n_)] [] (fun v o new => v = .d (.fl .f32 r) ∧ o = [] ∧ new = []) := by
  refine acall_of_aw hτ func152 rfl (by simp) (by simp) ?_
  unfold m_spec_l01From at h
  refine aw_seq ?_
  refine aw_region ?_
  refine awl_val hτ rfl rfl rfl ?_
  refine awl_nil ?_
  refine aw_seq ?_
  refine aw_region ?_
  refine awl_val hτ rfl rfl rfl ?_
  refine awl_val hτ rfl rfl rfl ?_
  refine grd_elim h fun hg2 h => ?_
  refine awl_ext hτ rfl rfl rfl (ext172 hg2) ?_
  refine awl_val hτ rfl rfl rfl ?_
  refine awl_nil ?_
  refine aw_weak (weak_ofP [] (l := [(2, .d (.fl .f32 (canon .f32 (IntKind.wrap .u32 (n_)).toNat)))]) (objs := []) rfl (by simp) rfl (by repeat' first | exact trivial | refine ⟨?_, ?_⟩) ⟨rfl, trivial, trivial⟩) ?_
  refine aw_ret ?_
  have hr := Option.some.inj h
  subst hr
  exact ret_objs (.inr rfl) [] (objs' := []) (new := []) rfl (by simp) (by simp) rfl (by repeat' first | exact trivial | refine ⟨?_, ?_⟩) rfl rfl (by repeat' first | exact trivial | refine ⟨?_, ?_⟩) (fun _ => ⟨by simp [V.flat, V.flatA, V.flatC, D.flat], flat_nil⟩) ⟨rfl, rfl, rfl⟩
theorem spec_l01From_ok (n : Nat) (n_ : Int) {r : Nat} (h : m_spec_l01From n n_ = some r) : ACall prog false 152 [.d (.int .i64 n_)] [] (fun v o new => v = .d (.fl .f32 r) ∧ o = [] ∧ new = []) := spec_l01From_ok_fr0 false n n_ h
theorem spec_l01From_ok_fr (n : Nat) (n_ : Int) {r : Nat} (h : m_spec_l01From n n_ = some r) : ACall prog true 152 [.d (.int .i64 n_)] [] (fun v o new => v = .d (.fl .f32 r) ∧ o = [] ∧ new = []) := spec_l01From_ok_fr0 true n n_ h

def m_spec_l10Eyes_number (n : Nat) (e_ : SL10Eyes) : Option (Cx × SL10Eyes) :=
  (m_spec_l10Eyes_word n e_ (4 : Int)).bind fun x5 =>
  (m_spec_l10Eyes_word n x5.2 (4 : Int)).bind fun x6 =>
  (m_spec_l01From n x5.1).bind fun x7 =>
  (m_spec_l01From n x6.1).bind fun x8 =>
  some ((Cx.mk x7 x8), x6.2)
theorem spec_l10Eyes_number_ok_fr0 (fr : Bool) (n : Nat) (e_ : SL10Eyes) {r : Cx × SL10Eyes} (h : m_spec_l10Eyes_number n e_ = some r) : ACall prog fr 116 [.ptr 0 0] [.box [.d (.str (bstr e_.text)), .d (.int .i64 e_.at_), .d (.bool e_.fine)]] (fun v o new => v = .d (.cx .f32 r.1.re r.1.im) ∧ o = [.box [.d (.str (bstr r.2.text)), .d (.int .i64 r.2.at_), .d (.bool r.2.fine)]] ∧ new = []) := by
  refine acall_of_aw hτ func116 rfl (by simp) (by simp) ?_
  unfold m_spec_l10Eyes_number at h
  refine aw_seq ?_
  refine aw_region ?_
  refine awl_val hτ rfl rfl rfl ?_
  refine awl_nil ?_
  refine aw_seq ?_
  refine aw_region ?_
  refine awl_val hτ rfl rfl rfl ?_
  refine bnd_elim h fun x5 hx5 h => ?_
  refine awl_callP hτ false [0] rfl rfl rfl (enterOk func73 rfl rfl) rfl rfl (by simp) ⟨trivial, trivial, trivial⟩ (by repeat' first | exact trivial | refine ⟨?_, ?_⟩) (spec_l10Eyes_word_ok n e_ (4 : Int) hx5) ?_
  rintro r0 o0 n0 ⟨rfl, rfl, rfl⟩ -
  refine awl_val hτ rfl rfl rfl ?_
  refine awl_nil ?_
  refine aw_seq ?_
  refine aw_region ?_
  refine awl_val hτ rfl rfl rfl ?_
  refine bnd_elim h fun x6 hx6 h => ?_
  refine awl_callP hτ false [0] rfl rfl rfl (enterOk func73 rfl rfl) rfl rfl (by simp) ⟨trivial, trivial, trivial⟩ (by repeat' first | exact trivial | refine ⟨?_, ?_⟩) (spec_l10Eyes_word_ok n x5.2 (4 : Int) hx6) ?_
  rintro r0 o0 n0 ⟨rfl, rfl, rfl⟩ -
  refine awl_val hτ rfl rfl rfl ?_
  refine awl_nil ?_
  refine aw_seq ?_
  refine aw_weak (weak_ofP [0] (l := [(3, .d (.int .i64 x5.1)), (4, .d (.int .i64 x6.1))]) (objs := [.box [.d (.str (bstr x6.2.text)), .d (.int .i64 x6.2.at_), .d (.bool x6.2.fine)]]) rfl (by simp) rfl (by repeat' first | exact trivial | refine ⟨?_, ?_⟩) ⟨rfl, trivial, rfl, trivial, trivial⟩) ?_
  refine aw_region ?_
  refine awl_val hτ rfl rfl rfl ?_
  refine bnd_elim h fun x7 hx7 h => ?_
  refine awl_callP hτ false [] rfl rfl rfl (enterOk func152 rfl rfl) rfl rfl (by simp) ⟨trivial, trivial⟩ (by repeat' first | exact trivial | refine ⟨?_, ?_⟩) (spec_l01From_ok n x5.1 hx7) ?_
  rintro r0 o0 n0 ⟨rfl, rfl, rfl⟩ -
  refine awl_val hτ rfl rfl rfl ?_
  refine bnd_elim h fun x8 hx8 h => ?_
  refine awl_callP hτ false [] rfl rfl rfl (enterOk func152 rfl rfl) rfl rfl (by simp) ⟨trivial, trivial⟩ (by repeat' first | exact trivial | refine ⟨?_, ?_⟩) (spec_l01From_ok n x6.1 hx8) ?_
  rintro r0 o0 n0 ⟨rfl, rfl, rfl⟩ -
  refine awl_val hτ rfl rfl rfl ?_
  refine awl_val hτ rfl rfl rfl ?_
  refine awl_nil ?_
  refine aw_weak (weak_ofP [0] (l := [(2, .d (.cx .f32 x7 x8))]) (objs := [.box [.d (.str (bstr x6.2.text)), .d (.int .i64 x6.2.at_), .d (.bool x6.2.fine)]]) rfl (by simp) rfl (by repeat' first | exact trivial | refine ⟨?_, ?_⟩) ⟨rfl, trivial, trivial⟩) ?_
  refine aw_ret ?_
  have hr := Option.some.inj h
  subst hr
  exact ret_objs (.inr rfl) [] (objs' := [.box [.d (.str (bstr x6.2.text)), .d (.int .i64 x6.2.at_), .d (.bool x6.2.fine)]]) (new := []) rfl (by simp) (by simp) rfl (by repeat' first | exact trivial | refine ⟨?_, ?_⟩) rfl rfl (by repeat' first | exact trivial | refine ⟨?_, ?_⟩) (fun _ => ⟨by simp [V.flat, V.flatA, V.flatC, D.flat], (flat_cons (by simp [AObj.flat, V.flatC, D.flat]) flat_nil)⟩) ⟨rfl, rfl, rfl⟩
theorem spec_l10Eyes_number_ok (n : Nat) (e_ : SL10Eyes) {r : Cx × SL10Eyes} (h : m_spec_l10Eyes_number n e_ = some r) : ACall prog false 116 [.ptr 0 0] [.box [.d (.str (bstr e_.text)), .d (.int .i64 e_.at_), .d (.bool e_.fine)]] (fun v o new => v = .d (.cx .f32 r.1.re r.1.im) ∧ o = [.box [.d (.str (bstr r.2.text)), .d (.int .i64 r.2.at_), .d (.bool r.2.fine)]] ∧ new = []) := spec_l10Eyes_number_ok_fr0 false n e_ h
theorem spec_l10Eyes_number_ok_fr (n : Nat) (e_ : SL10Eyes) {r : Cx × SL10Eyes} (h : m_spec_l10Eyes_number n e_ = some r) : ACall prog true 116 [.ptr 0 0] [.box [.d (.str (bstr e_.text)), .d (.int .i64 e_.at_), .d (.bool e_.fine)]] (fun v o new => v = .d (.cx .f32 r.1.re r.1.im) ∧ o = [.box [.d (.str (bstr r.2.text)), .d (.int .i64 r.2.at_), .d (.bool r.2.fine)]] ∧ new = []) := spec_l10Eyes_number_ok_fr0 true n e_ h

def m_spec_l10Eyes_phases (n : Nat) (e_ : SL10Eyes) : Option (SPhases × SL10Eyes) :=
  (m_spec_l10Eyes_number n e_).bind fun x4 =>
  (m_spec_l10Eyes_number n x4.2).bind fun x5 =>
  (m_spec_l10Eyes_number n x5.2).bind fun x6 =>
  some ((SPhases.mk x4.1 x5.1 x6.1), x6.2)
theorem spec_l10Eyes_phases_ok_fr0 (fr : Bool) (n : Nat) (e_ : SL10Eyes) {r : SPhases × SL10Eyes} (h : m_spec_l10Eyes_phases n e_ = some r) : ACall prog fr 72 [.ptr 0 0] [.box [.d (.str (bstr e_.text)), .d (.int .i64 e_.at_), .d (.bool e_.fine)]] (fun v o new => v = .agg [.d (.cx .f32 r.1.A.re r.1.A.im), .d (.cx .f32 r.1.B.re r.1.B.im), .d (.cx .f32 r.1.C.re r.1.C.im)] ∧ o = [.box [.d (.str (bstr r.2.text)), .d (.int .i64 r.2.at_), .d (.bool r.2.fine)]] ∧ new = []) := by
  refine acall_of_aw hτ func72 rfl (by simp) (by simp) ?_
  unfold m_spec_l10Eyes_phases at h
  refine aw_seq ?_
  refine aw_region ?_
  refine awl_valH hτ rfl rfl rfl ?_
  refine awl_nil ?_
  refine aw_seq ?_
  refine aw_region ?_
  refine awl_val hτ rfl rfl rfl ?_
  refine bnd_elim h fun x4 hx4 h => ?_
  refine awl_callP hτ false [0] rfl rfl rfl (enterOk func116 rfl rfl) rfl rfl (by simp) ⟨trivial, trivial⟩ (by repeat' first | exact trivial | refine ⟨?_, ?_⟩) (spec_l10Eyes_number_ok n e_ hx4) ?_
  rintro r0 o0 n0 ⟨rfl, rfl, rfl⟩ -
  refine awl_val hτ rfl rfl rfl ?_
  refine awl_valH hτ rfl rfl rfl ?_
  refine awl_valH hτ rfl rfl rfl ?_
  refine awl_nil ?_
  refine aw_seq ?_
  refine aw_weak (weak_ofP [0, 1, 2] (l := [(0, .ptr 0 0), (2, .ptr 1 0), (3, .ptr 2 0)]) (objs := [.box [.d (.str (bstr x4.2.text)), .d (.int .i64 x4.2.at_), .d (.bool x4.2.fine)], .box [.d (.cx .f32 (0 : Nat) (0 : Nat)), .d (.cx .f32 (0 : Nat) (0 : Nat)), .d (.cx .f32 (0 : Nat) (0 : Nat))], .box [.d (.cx .f32 x4.1.re x4.1.im), .d (.cx .f32 (0 : Nat) (0 : Nat)), .d (.cx .f32 (0 : Nat) (0 : Nat))]]) rfl (by simp) rfl (by repeat' first | exact trivial | refine ⟨?_, ?_⟩) ⟨rfl, trivial, rfl, trivial, rfl, trivial, trivial⟩) ?_
  refine aw_region ?_
  refine awl_val hτ rfl rfl rfl ?_
  refine bnd_elim h fun x5 hx5 h => ?_
  refine awl_callP hτ false [0] rfl rfl rfl (enterOk func116 rfl rfl) rfl rfl (by simp) ⟨trivial, trivial⟩ (by repeat' first | exact trivial | refine ⟨?_, ?_⟩) (spec_l10Eyes_number_ok n x4.2 hx5) ?_
  rintro r0 o0 n0 ⟨rfl, rfl, rfl⟩ -
  refine awl_val hτ rfl rfl rfl ?_
  refine awl_valH hτ rfl rfl rfl ?_
  refine awl_nil ?_
  refine aw_seq ?_
  refine aw_region ?_
  refine awl_val hτ rfl rfl rfl ?_
  refine bnd_elim h fun x6 hx6 h => ?_
  refine awl_callP hτ false [0] rfl rfl rfl (enterOk func116 rfl rfl) rfl rfl (by simp) ⟨trivial, trivial⟩ (by repeat' first | exact trivial | refine ⟨?_, ?_⟩) (spec_l10Eyes_number_ok n x5.2 hx6) ?_
  rintro r0 o0 n0 ⟨rfl, rfl, rfl⟩ -
  refine awl_val hτ rfl rfl rfl ?_
  refine awl_valH hτ rfl rfl rfl ?_
  refine awl_nil ?_
  refine aw_seq ?_
  refine aw_weak (weak_ofP [0, 1, 2] (l := [(2, .ptr 1 0), (3, .ptr 2 0)]) (objs := [.box [.d (.str (bstr x6.2.text)), .d (.int .i64 x6.2.at_), .d (.bool x6.2.fine)], .box [.d (.cx .f32 (0 : Nat) (0 : Nat)), .d (.cx .f32 (0 : Nat) (0 : Nat)), .d (.cx .f32 (0 : Nat) (0 : Nat))], .box [.d (.cx .f32 x4.1.re x4.1.im), .d (.cx .f32 x5.1.re x5.1.im), .d (.cx .f32 x6.1.re x6.1.im)]]) rfl (by simp) rfl (by repeat' first | exact trivial | refine ⟨?_, ?_⟩) ⟨rfl, trivial, rfl, trivial, trivial⟩) ?_
  refine aw_region ?_
  refine awl_val hτ rfl rfl rfl ?_
  refine awl_valH hτ rfl rfl rfl ?_
  refine awl_nil ?_
  refine aw_weak (weak_ofP [0, 1] (l := [(2, .ptr 1 0)]) (objs := [.box [.d (.str (bstr x6.2.text)), .d (.int .i64 x6.2.at_), .d (.bool x6.2.fine)], .box [.d (.cx .f32 x4.1.re x4.1.im), .d (.cx .f32 x5.1.re x5.1.im), .d (.cx .f32 x6.1.re x6.1.im)]]) rfl (by simp) rfl (by repeat' first | exact trivial | refine ⟨?_, ?_⟩) ⟨rfl, trivial, trivial⟩) ?_
  refine aw_ret ?_
  have hr := Option.some.inj h
  subst hr
  exact ret_objs (.inr rfl) [] (objs' := [.box [.d (.str (bstr x6.2.text)), .d (.int .i64 x6.2.at_), .d (.bool x6.2.fine)]]) (new := []) rfl (by simp) (by simp) rfl (by repeat' first | exact trivial | refine ⟨?_, ?_⟩) rfl rfl (by repeat' first | exact trivial | refine ⟨?_, ?_⟩) (fun _ => ⟨by simp [V.flat, V.flatA, V.flatC, D.flat], (flat_cons (by simp [AObj.flat, V.flatC, D.flat]) flat_nil)⟩) ⟨rfl, rfl, rfl⟩
theorem spec_l10Eyes_phases_ok (n : Nat) (e_ : SL10Eyes) {r : SPhases × SL10Eyes} (h : m_spec_l10Eyes_phases n e_ = some r) : ACall prog false 72 [.ptr 0 0] [.box [.d (.str (bstr e_.text)), .d (.int .i64 e_.at_), .d (.bool e_.fine)]] (fun v o new => v = .agg [.d (.cx .f32 r.1.A.re r.1.A.im), .d (.cx .f32 r.1.B.re r.1.B.im), .d (.cx .f32 r.1.C.re r.1.C.im)] ∧ o = [.box [.d (.str (bstr r.2.text)), .d (.int .i64 r.2.at_), .d (.bool r.2.fine)]] ∧ new = []) := spec_l10Eyes_phases_ok_fr0 false n e_ h
theorem spec_l10Eyes_phases_ok_fr (n : Nat) (e_ : SL10Eyes) {r : SPhases × SL10Eyes} (h : m_spec_l10Eyes_phases n e_ = some r) : ACall prog true 72 [.ptr 0 0] [.box [.d (.str (bstr e_.text)), .d (.int .i64 e_.at_), .d (.bool e_.fine)]] (fun v o new => v = .agg [.d (.cx .f32 r.1.A.re r.1.A.im), .d (.cx .f32 r.1.B.re r.1.B.im), .d (.cx .f32 r.1.C.re r.1.C.im)] ∧ o = [.box [.d (.str (bstr r.2.text)), .d (.int .i64 r.2.at_), .d (.bool r.2.fine)]] ∧ new = []) := spec_l10Eyes_phases_ok_fr0 true n e_ h

def m_spec_l10Eyes_bus (n : Nat) (e_ : SL10Eyes) : Option (SBus × SL10Eyes) :=
  (m_spec_l10Eyes_word n e_ (1 : Int)).bind fun x7 =>
  (m_spec_l10Eyes_number n x7.2).bind fun x8 =>
  (m_spec_l10Eyes_number n x8.2).bind fun x9 =>
  (m_spec_l10Eyes_word n x9.2 (1 : Int)).bind fun x10 =>
  (m_spec_l10Eyes_phases n x10.2).bind fun x11 =>
  (m_spec_l10Eyes_word n x11.2 (4 : Int)).bind fun x12 =>
  some ((SBus.mk (w64 (x7.1 - (1 : Int))) x8.1 x9.1 x10.1 x11.1 x12.1), x12.2)
theorem spec_l10Eyes_bus_ok_fr0 (fr : Bool) (n : Nat) (e_ : SL10Eyes) {r : SBus × SL10Eyes} (h : m_spec_l10Eyes_bus n e_ = some r) : ACall prog fr 74 [.ptr 0 0] [.box [.d (.str (bstr e_.text)), .d (.int .i64 e_.at_), .d (.bool e_.fine)]] (fun v o new => v = .agg [.d (.int .i64 r.1.Parent), .d (.cx .f32 r.1.Own.re r.1.Own.im), .d (.cx .f32 r.1.Shared.re r.1.Shared.im), .d (.int .i64 r.1.Kind), .d (.cx .f32 r.1.Load.A.re r.1.Load.A.im), .d (.cx .f32 r.1.Load.B.re r.1.Load.B.im), .d (.cx .f32 r.1.Load.C.re r.1.Load.C.im), .d (.int .i64 r.1.Customers)] ∧ o = [.box [.d (.str (bstr r.2.text)), .d (.int .i64 r.2.at_), .d (.bool r.2.fine)]] ∧ new = []) := by
  refine acall_of_aw hτ func74 rfl (by simp) (by simp) ?_
  unfold m_spec_l10Eyes_bus at h
  refine aw_seq ?_
  refine aw_region ?_
  refine awl_valH hτ rfl rfl rfl ?_
  refine awl_nil ?_
  refine aw_seq ?_
  refine aw_region ?_
  refine awl_val hτ rfl rfl rfl ?_
  refine bnd_elim h fun x7 hx7 h => ?_
  refine awl_callP hτ false [0] rfl rfl rfl (enterOk func73 rfl rfl) rfl rfl (by simp) ⟨trivial, trivial, trivial⟩ (by repeat' first | exact trivial | refine ⟨?_, ?_⟩) (spec_l10Eyes_word_ok n e_ (1 : Int) hx7) ?_
  rintro r0 o0 n0 ⟨rfl, rfl, rfl⟩ -
  refine awl_val hτ rfl rfl rfl ?_
  refine awl_val hτ rfl rfl rfl ?_
  refine awl_valH hτ rfl rfl rfl ?_
  refine awl_valH hτ rfl rfl rfl ?_
  refine awl_nil ?_
  refine aw_seq ?_
  refine aw_weak (weak_ofP [0, 1, 2] (l := [(0, .ptr 0 0), (2, .ptr 1 0), (3, .ptr 2 0)]) (objs := [.box [.d (.str (bstr x7.2.text)), .d (.int .i64 x7.2.at_), .d (.bool x7.2.fine)], .box [.d (.int .i64 (0 : Int)), .d (.cx .f32 (0 : Nat) (0 : Nat)), .d (.cx .f32 (0 : Nat) (0 : Nat)), .d (.int .i64 (0 : Int)), .d (.cx .f32 (0 : Nat) (0 : Nat)), .d (.cx .f32 (0 : Nat) (0 : Nat)), .d (.cx .f32 (0 : Nat) (0 : Nat)), .d (.int .i64 (0 : Int))], .box [.d (.int .i64 (w64 (x7.1 - (1 : Int)))), .d (.cx .f32 (0 : Nat) (0 : Nat)), .d (.cx .f32 (0 : Nat) (0 : Nat)), .d (.int .i64 (0 : Int)), .d (.cx .f32 (0 : Nat) (0 : Nat)), .d (.cx .f32 (0 : Nat) (0 : Nat)), .d (.cx .f32 (0 : Nat) (0 : Nat)), .d (.int .i64 (0 : Int))]]) rfl (by simp) rfl (by repeat' first | exact trivial | refine ⟨?_, ?_⟩) ⟨rfl, trivial, rfl, trivial, rfl, trivial, trivial⟩) ?_
  refine aw_region ?_
  refine awl_val hτ rfl rfl rfl ?_
  refine bnd_elim h fun x8 hx8 h => ?_
  refine awl_callP hτ false [0] rfl rfl rfl (enterOk func116 rfl rfl) rfl rfl (by simp) ⟨trivial, trivial⟩ (by repeat' first | exact trivial | refine ⟨?_, ?_⟩) (spec_l10Eyes_number_ok n x7.2 hx8) ?_
  rintro r0 o0 n0 ⟨rfl, rfl, rfl⟩ -
  refine awl_val hτ rfl rfl rfl ?_
  refine awl_valH hτ rfl rfl rfl ?_
  refine awl_nil ?_
  refine aw_seq ?_
  refine aw_region ?_
  refine awl_val hτ rfl rfl rfl ?_
  refine bnd_elim h fun x9 hx9 h => ?_
  refine awl_callP hτ false [0] rfl rfl rfl (enterOk func116 rfl rfl) rfl rfl (by simp) ⟨trivial, trivial⟩ (by repeat' first | exact trivial | refine ⟨?_, ?_⟩) (spec_l10Eyes_number_ok n x8.2 hx9) ?_
  rintro r0 o0 n0 ⟨rfl, rfl, rfl⟩ -
  refine awl_val hτ rfl rfl rfl ?_
  refine awl_valH hτ rfl rfl rfl ?_
  refine awl_nil ?_
  refine aw_seq ?_
  refine aw_weak (weak_ofP [0, 1, 2] (l := [(0, .ptr 0 0), (2, .ptr 1 0), (3, .ptr 2 0)]) (objs := [.box [.d (.str (bstr x9.2.text)), .d (.int .i64 x9.2.at_), .d (.bool x9.2.fine)], .box [.d (.int .i64 (0 : Int)), .d (.cx .f32 (0 : Nat) (0 : Nat)), .d (.cx .f32 (0 : Nat) (0 : Nat)), .d (.int .i64 (0 : Int)), .d (.cx .f32 (0 : Nat) (0 : Nat)), .d (.cx .f32 (0 : Nat) (0 : Nat)), .d (.cx .f32 (0 : Nat) (0 : Nat)), .d (.int .i64 (0 : Int))], .box [.d (.int .i64 (w64 (x7.1 - (1 : Int)))), .d (.cx .f32 x8.1.re x8.1.im), .d (.cx .f32 x9.1.re x9.1.im), .d (.int .i64 (0 : Int)), .d (.cx .f32 (0 : Nat) (0 : Nat)), .d (.cx .f32 (0 : Nat) (0 : Nat)), .d (.cx .f32 (0 : Nat) (0 : Nat)), .d (.int .i64 (0 : Int))]]) rfl (by simp) rfl (by repeat' first | exact trivial | refine ⟨?_, ?_⟩) ⟨rfl, trivial, rfl, trivial, rfl, trivial, trivial⟩) ?_
  refine aw_region ?_
  refine awl_val hτ rfl rfl rfl ?_
  refine bnd_elim h fun x10 hx10 h => ?_
  refine awl_callP hτ false [0] rfl rfl rfl (enterOk func73 rfl rfl) rfl rfl (by simp) ⟨trivial, trivial, trivial⟩ (by repeat' first | exact trivial | refine ⟨?_, ?_⟩) (spec_l10Eyes_word_ok n x9.2 (1 : Int) hx10) ?_
  rintro r0 o0 n0 ⟨rfl, rfl, rfl⟩ -
  refine awl_val hτ rfl rfl rfl ?_
  refine awl_valH hτ rfl rfl rfl ?_
  refine awl_nil ?_
  refine aw_seq ?_
  refine aw_region ?_
  refine awl_val hτ rfl rfl rfl ?_
  refine bnd_elim h fun x11 hx11 h => ?_
  refine awl_callP hτ false [0] rfl rfl rfl (enterOk func72 rfl rfl) rfl rfl (by simp) ⟨trivial, trivial⟩ (by repeat' first | exact trivial | refine ⟨?_, ?_⟩) (spec_l10Eyes_phases_ok n x10.2 hx11) ?_
  rintro r0 o0 n0 ⟨rfl, rfl, rfl⟩ -
  refine awl_val hτ rfl rfl rfl ?_
  refine awl_valH hτ rfl rfl rfl ?_
  refine awl_nil ?_
  refine aw_seq ?_
  refine aw_weak (weak_ofP [0, 1, 2] (l := [(0, .ptr 0 0), (2, .ptr 1 0), (3, .ptr 2 0)]) (objs := [.box [.d (.str (bstr x11.2.text)), .d (.int .i64 x11.2.at_), .d (.bool x11.2.fine)], .box [.d (.int .i64 (0 : Int)), .d (.cx .f32 (0 : Nat) (0 : Nat)), .d (.cx .f32 (0 : Nat) (0 : Nat)), .d (.int .i64 (0 : Int)), .d (.cx .f32 (0 : Nat) (0 : Nat)), .d (.cx .f32 (0 : Nat) (0 : Nat)), .d (.cx .f32 (0 : Nat) (0 : Nat)), .d (.int .i64 (0 : Int))], .box [.d (.int .i64 (w64 (x7.1 - (1 : Int)))), .d (.cx .f32 x8.1.re x8.1.im), .d (.cx .f32 x9.1.re x9.1.im), .d (.int .i64 x10.1), .d (.cx .f32 x11.1.A.re x11.1.A.im), .d (.cx .f32 x11.1.B.re x11.1.B.im), .d (.cx .f32 x11.1.C.re x11.1.C.im), .d (.int .i64 (0 : Int))]]) rfl (by simp) rfl (by repeat' first | exact trivial | refine ⟨?_, ?_⟩) ⟨rfl, trivial, rfl, trivial, rfl, trivial, trivial⟩) ?_
  refine aw_region ?_
  refine awl_val hτ rfl rfl rfl ?_
  refine bnd_elim h fun x12 hx12 h => ?_
  refine awl_callP hτ false [0] rfl rfl rfl (enterOk func73 rfl rfl) rfl rfl (by simp) ⟨trivial, trivial, trivial⟩ (by repeat' first | exact trivial | refine ⟨?_, ?_⟩) (spec_l10Eyes_word_ok n x11.2 (4 : Int) hx12) ?_
  rintro r0 o0 n0 ⟨rfl, rfl, rfl⟩ -
  refine awl_val hτ rfl rfl rfl ?_
  refine awl_valH hτ rfl rfl rfl ?_
  refine awl_nil ?_
  refine aw_seq ?_
  refine aw_region ?_
  refine awl_val hτ rfl rfl rfl ?_
  refine awl_valH hτ rfl rfl rfl ?_
  refine awl_nil ?_
  refine aw_weak (weak_ofP [0, 1] (l := [(2, .ptr 1 0)]) (objs := [.box [.d (.str (bstr x12.2.text)), .d (.int .i64 x12.2.at_), .d (.bool x12.2.fine)], .box [.d (.int .i64 (w64 (x7.1 - (1 : Int)))), .d (.cx .f32 x8.1.re x8.1.im), .d (.cx .f32 x9.1.re x9.1.im), .d (.int .i64 x10.1), .d (.cx .f32 x11.1.A.re x11.1.A.im), .d (.cx .f32 x11.1.B.re x11.1.B.im), .d (.cx .f32 x11.1.C.re x11.1.C.im), .d (.int .i64 x12.1)]]) rfl (by simp) rfl (by repeat' first | exact trivial | refine ⟨?_, ?_⟩) ⟨rfl, trivial, trivial⟩) ?_
  refine aw_ret ?_
  have hr := Option.some.inj h
  subst hr
  exact ret_objs (.inr rfl) [] (objs' := [.box [.d (.str (bstr x12.2.text)), .d (.int .i64 x12.2.at_), .d (.bool x12.2.fine)]]) (new := []) rfl (by simp) (by simp) rfl (by repeat' first | exact trivial | refine ⟨?_, ?_⟩) rfl rfl (by repeat' first | exact trivial | refine ⟨?_, ?_⟩) (fun _ => ⟨by simp [V.flat, V.flatA, V.flatC, D.flat], (flat_cons (by simp [AObj.flat, V.flatC, D.flat]) flat_nil)⟩) ⟨rfl, rfl, rfl⟩
theorem spec_l10Eyes_bus_ok (n : Nat) (e_ : SL10Eyes) {r : SBus × SL10Eyes} (h : m_spec_l10Eyes_bus n e_ = some r) : ACall prog false 74 [.ptr 0 0] [.box [.d (.str (bstr e_.text)), .d (.int .i64 e_.at_), .d (.bool e_.fine)]] (fun v o new => v = .agg [.d (.int .i64 r.1.Parent), .d (.cx .f32 r.1.Own.re r.1.Own.im), .d (.cx .f32 r.1.Shared.re r.1.Shared.im), .d (.int .i64 r.1.Kind), .d (.cx .f32 r.1.Load.A.re r.1.Load.A.im), .d (.cx .f32 r.1.Load.B.re r.1.Load.B.im), .d (.cx .f32 r.1.Load.C.re r.1.Load.C.im), .d (.int .i64 r.1.Customers)] ∧ o = [.box [.d (.str (bstr r.2.text)), .d (.int .i64 r.2.at_), .d (.bool r.2.fine)]] ∧ new = []) := spec_l10Eyes_bus_ok_fr0 false n e_ h
theorem spec_l10Eyes_bus_ok_fr (n : Nat) (e_ : SL10Eyes) {r : SBus × SL10Eyes} (h : m_spec_l10Eyes_bus n e_ = some r) : ACall prog true 74 [.ptr 0 0] [.box [.d (.str (bstr e_.text)), .d (.int .i64 e_.at_), .d (.bool e_.fine)]] (fun v o new => v = .agg [.d (.int .i64 r.1.Parent), .d (.cx .f32 r.1.Own.re r.1.Own.im), .d (.cx .f32 r.1.Shared.re r.1.Shared.im), .d (.int .i64 r.1.Kind), .d (.cx .f32 r.1.Load.A.re r.1.Load.A.im), .d (.cx .f32 r.1.Load.B.re r.1.Load.B.im), .d (.cx .f32 r.1.Load.C.re r.1.Load.C.im), .d (.int .i64 r.1.Customers)] ∧ o = [.box [.d (.str (bstr r.2.text)), .d (.int .i64 r.2.at_), .d (.bool r.2.fine)]] ∧ new = []) := spec_l10Eyes_bus_ok_fr0 true n e_ h

def m_spec_l10Eyes_tie (n : Nat) (e_ : SL10Eyes) : Option (STie × SL10Eyes) :=
  (m_spec_l10Eyes_word n e_ (1 : Int)).bind fun x6 =>
  (m_spec_l10Eyes_word n x6.2 (1 : Int)).bind fun x7 =>
  (m_spec_l10Eyes_number n x7.2).bind fun x8 =>
  (m_spec_l10Eyes_number n x8.2).bind fun x9 =>
  (m_spec_l10Eyes_word n x9.2 (4 : Int)).bind fun x10 =>
  some ((STie.mk x6.1 x7.1 x8.1 x9.1 x10.1), x10.2)
theorem spec_l10Eyes_tie_ok_fr0 (fr : Bool) (n : Nat) (e_ : SL10Eyes) {r : STie × SL10Eyes} (h : m_spec_l10Eyes_tie n e_ = some r) : ACall prog fr 75 [.ptr 0 0] [.box [.d (.str (bstr e_.text)), .d (.int .i64 e_.at_), .d (.bool e_.fine)]] (fun v o new => v = .agg [.d (.int .i64 r.1.A), .d (.int .i64 r.1.B), .d (.cx .f32 r.1.Own.re r.1.Own.im), .d (.cx .f32 r.1.Shared.re r.1.Shared.im), .d (.int .i64 r.1.Most)] ∧ o = [.box [.d (.str (bstr r.2.text)), .d (.int .i64 r.2.at_), .d (.bool r.2.fine)]] ∧ new = []) := by
  refine acall_of_aw hτ func75 rfl (by simp) (by simp) ?_
  unfold m_spec_l10Eyes_tie at h
  refine aw_seq ?_
  refine aw_region ?_
  refine awl_valH hτ rfl rfl rfl ?_
  refine awl_nil ?_
  refine aw_seq ?_
  refine aw_region ?_
  refine awl_val hτ rfl rfl rfl ?_
  refine bnd_elim h fun x6 hx6 h => ?_
  refine awl_callP hτ false [0] rfl rfl rfl (enterOk func73 rfl rfl) rfl rfl (by simp) ⟨trivial, trivial, trivial⟩ (by repeat' first | exact trivial | refine ⟨?_, ?_⟩) (spec_l10Eyes_word_ok n e_ (1 : Int) hx6) ?_
  rintro r0 o0 n0 ⟨rfl, rfl, rfl⟩ -
  refine awl_val hτ rfl rfl rfl ?_
  refine awl_valH hτ rfl rfl rfl ?_
  refine awl_valH hτ rfl rfl rfl ?_
  refine awl_nil ?_
  refine aw_seq ?_
  refine aw_weak (weak_ofP [0, 1, 2] (l := [(0, .ptr 0 0), (2, .ptr 1 0), (3, .ptr 2 0)]) (objs := [.box [.d (.str (bstr x6.2.text)), .d (.int .i64 x6.2.at_), .d (.bool x6.2.fine)], .box [.d (.int .i64 (0 : Int)), .d (.int .i64 (0 : Int)), .d (.cx .f32 (0 : Nat) (0 : Nat)), .d (.cx .f32 (0 : Nat) (0 : Nat)), .d (.int .i64 (0 : Int))], .box [.d (.int .i64 x6.1), .d (.int .i64 (0 : Int)), .d (.cx .f32 (0 : Nat) (0 : Nat)), .d (.cx .f32 (0 : Nat) (0 : Nat)), .d (.int .i64 (0 : Int))]]) rfl (by simp) rfl (by repeat' first | exact trivial | refine ⟨?_, ?_⟩) ⟨rfl, trivial, rfl, trivial, rfl, trivial, trivial⟩) ?_
  refine aw_region ?_
  refine awl_val hτ rfl rfl rfl ?_
  refine bnd_elim h fun x7 hx7 h => ?_
  refine awl_callP hτ false [0] rfl rfl rfl (enterOk func73 rfl rfl) rfl rfl (by simp) ⟨trivial, trivial, trivial⟩ (by repeat' first | exact trivial | refine ⟨?_, ?_⟩) (spec_l10Eyes_word_ok n x6.2 (1 : Int) hx7) ?_
  rintro r0 o0 n0 ⟨rfl, rfl, rfl⟩ -
  refine awl_val hτ rfl rfl rfl ?_
  refine awl_valH hτ rfl rfl rfl ?_
  refine awl_nil ?_
  refine aw_seq ?_
  refine aw_region ?_
  refine awl_val hτ rfl rfl rfl ?_
  refine bnd_elim h fun x8 hx8 h => ?_
  refine awl_callP hτ false [0] rfl rfl rfl (enterOk func116 rfl rfl) rfl rfl (by simp) ⟨trivial, trivial⟩ (by repeat' first | exact trivial | refine ⟨?_, ?_⟩) (spec_l10Eyes_number_ok n x7.2 hx8) ?_
  rintro r0 o0 n0 ⟨rfl, rfl, rfl⟩ -
  refine awl_val hτ rfl rfl rfl ?_
  refine awl_valH hτ rfl rfl rfl ?_
  refine awl_nil ?_
  refine aw_seq ?_
  refine aw_weak (weak_ofP [0, 1, 2] (l := [(0, .ptr 0 0), (2, .ptr 1 0), (3, .ptr 2 0)]) (objs := [.box [.d (.str (bstr x8.2.text)), .d (.int .i64 x8.2.at_), .d (.bool x8.2.fine)], .box [.d (.int .i64 (0 : Int)), .d (.int .i64 (0 : Int)), .d (.cx .f32 (0 : Nat) (0 : Nat)), .d (.cx .f32 (0 : Nat) (0 : Nat)), .d (.int .i64 (0 : Int))], .box [.d (.int .i64 x6.1), .d (.int .i64 x7.1), .d (.cx .f32 x8.1.re x8.1.im), .d (.cx .f32 (0 : Nat) (0 : Nat)), .d (.int .i64 (0 : Int))]]) rfl (by simp) rfl (by repeat' first | exact trivial | refine ⟨?_, ?_⟩) ⟨rfl, trivial, rfl, trivial, rfl, trivial, trivial⟩) ?_
  refine aw_region ?_
  refine awl_val hτ rfl rfl rfl ?_
  refine bnd_elim h fun x9 hx9 h => ?_
  refine awl_callP hτ false [0] rfl rfl rfl (enterOk func116 rfl rfl) rfl rfl (by simp) ⟨trivial, trivial⟩ (by repeat' first | exact trivial | refine ⟨?_, ?_⟩) (spec_l10Eyes_number_ok n x8.2 hx9) ?_
  rintro r0 o0 n0 ⟨rfl, rfl, rfl⟩ -
  refine awl_val hτ rfl rfl rfl ?_
  refine awl_valH hτ rfl rfl rfl ?_
  refine awl_nil ?_
  refine aw_seq ?_
  refine aw_region ?_
  refine awl_val hτ rfl rfl rfl ?_
  refine bnd_elim h fun x10 hx10 h => ?_
  refine awl_callP hτ false [0] rfl rfl rfl (enterOk func73 rfl rfl) rfl rfl (by simp) ⟨trivial, trivial, trivial⟩ (by repeat' first | exact trivial | refine ⟨?_, ?_⟩) (spec_l10Eyes_word_ok n x9.2 (4 : Int) hx10) ?_
  rintro r0 o0 n0 ⟨rfl, rfl, rfl⟩ -
  refine awl_val hτ rfl rfl rfl ?_
  refine awl_valH hτ rfl rfl rfl ?_
  refine awl_nil ?_
  refine aw_seq ?_
  refine aw_weak (weak_ofP [0, 1, 2] (l := [(2, .ptr 1 0), (3, .ptr 2 0)]) (objs := [.box [.d (.str (bstr x10.2.text)), .d (.int .i64 x10.2.at_), .d (.bool x10.2.fine)], .box [.d (.int .i64 (0 : Int)), .d (.int .i64 (0 : Int)), .d (.cx .f32 (0 : Nat) (0 : Nat)), .d (.cx .f32 (0 : Nat) (0 : Nat)), .d (.int .i64 (0 : Int))], .box [.d (.int .i64 x6.1), .d (.int .i64 x7.1), .d (.cx .f32 x8.1.re x8.1.im), .d (.cx .f32 x9.1.re x9.1.im), .d (.int .i64 x10.1)]]) rfl (by simp) rfl (by repeat' first | exact trivial | refine ⟨?_, ?_⟩) ⟨rfl, trivial, rfl, trivial, trivial⟩) ?_
  refine aw_region ?_
  refine awl_val hτ rfl rfl rfl ?_
  refine awl_valH hτ rfl rfl rfl ?_
  refine awl_nil ?_
  refine aw_weak (weak_ofP [0, 1] (l := [(2, .ptr 1 0)]) (objs := [.box [.d (.str (bstr x10.2.text)), .d (.int .i64 x10.2.at_), .d (.bool x10.2.fine)], .box [.d (.int .i64 x6.1), .d (.int .i64 x7.1), .d (.cx .f32 x8.1.re x8.1.im), .d (.cx .f32 x9.1.re x9.1.im), .d (.int .i64 x10.1)]]) rfl (by simp) rfl (by repeat' first | exact trivial | refine ⟨?_, ?_⟩) ⟨rfl, trivial, trivial⟩) ?_
  refine aw_ret ?_
  have hr := Option.some.inj h
  subst hr
  exact ret_objs (.inr rfl) [] (objs' := [.box [.d (.str (bstr x10.2.text)), .d (.int .i64 x10.2.at_), .d (.bool x10.2.fine)]]) (new := []) rfl (by simp) (by simp) rfl (by repeat' first | exact trivial | refine ⟨?_, ?_⟩) rfl rfl (by repeat' first | exact trivial | refine ⟨?_, ?_⟩) (fun _ => ⟨by simp [V.flat, V.flatA, V.flatC, D.flat], (flat_cons (by simp [AObj.flat, V.flatC, D.flat]) flat_nil)⟩) ⟨rfl, rfl, rfl⟩
theorem spec_l10Eyes_tie_ok (n : Nat) (e_ : SL10Eyes) {r : STie × SL10Eyes} (h : m_spec_l10Eyes_tie n e_ = some r) : ACall prog false 75 [.ptr 0 0] [.box [.d (.str (bstr e_.text)), .d (.int .i64 e_.at_), .d (.bool e_.fine)]] (fun v o new => v = .agg [.d (.int .i64 r.1.A), .d (.int .i64 r.1.B), .d (.cx .f32 r.1.Own.re r.1.Own.im), .d (.cx .f32 r.1.Shared.re r.1.Shared.im), .d (.int .i64 r.1.Most)] ∧ o = [.box [.d (.str (bstr r.2.text)), .d (.int .i64 r.2.at_), .d (.bool r.2.fine)]] ∧ new = []) := spec_l10Eyes_tie_ok_fr0 false n e_ h
theorem spec_l10Eyes_tie_ok_fr (n : Nat) (e_ : SL10Eyes) {r : STie × SL10Eyes} (h : m_spec_l10Eyes_tie n e_ = some r) : ACall prog true 75 [.ptr 0 0] [.box [.d (.str (bstr e_.text)), .d (.int .i64 e_.at_), .d (.bool e_.fine)]] (fun v o new => v = .agg [.d (.int .i64 r.1.A), .d (.int .i64 r.1.B), .d (.cx .f32 r.1.Own.re r.1.Own.im), .d (.cx .f32 r.1.Shared.re r.1.Shared.im), .d (.int .i64 r.1.Most)] ∧ o = [.box [.d (.str (bstr r.2.text)), .d (.int .i64 r.2.at_), .d (.bool r.2.fine)]] ∧ new = []) := spec_l10Eyes_tie_ok_fr0 true n e_ h

def m_spec_l00In (n : Nat) (n_ : Int) (low_ : Int) (high_ : Int) : Option Bool :=
  if n_ ≥ low_ then
    some (decide (n_ ≤ high_))
  else
    some false
theorem spec_l00In_ok_fr0 (fr : Bool) (n : Nat) (n_ : Int) (low_ : Int) (high_ : Int) {r : Bool} (h : m_spec_l00In n n_ low_ high_ = some r) : ACall prog fr 101 [.d (.int .i64 n_), .d (.int .i64 low_), .d (.int .i64 high_)] [] (fun v o new => v = .d (.bool r) ∧ o = [] ∧ new = []) := by
  refine acall_of_aw hτ func101 rfl (by simp) (by simp) ?_
  unfold m_spec_l00In at h
  refine aw_seq ?_
  refine aw_region ?_
  refine awl_val hτ rfl rfl rfl ?_
  refine awl_nil ?_
  refine aw_seq ?_
  refine aw_region ?_
  refine awl_val hτ rfl rfl rfl ?_
  refine awl_val hτ rfl rfl rfl ?_
  refine awl_val hτ rfl rfl rfl ?_
  refine awl_val hτ rfl rfl rfl ?_
  refine awl_split 10 rfl (fun hb3 => ?_) (fun hb3 => ?_)
  · have h := if_t h hb3
    refine awl_val hτ rfl rfl rfl ?_
    refine awl_val hτ rfl rfl rfl ?_
    refine awl_val hτ rfl rfl rfl ?_
    refine awl_val hτ rfl rfl rfl ?_
    refine awl_val hτ rfl rfl rfl ?_
    refine awl_nil ?_
    refine aw_weak (weak_ofP [] (l := [(6, .d (.bool (decide (n_ ≤ high_))))]) (objs := []) rfl (by simp) rfl (by repeat' first | exact trivial | refine ⟨?_, ?_⟩) ⟨rfl, trivial, trivial⟩) ?_
    refine aw_ret ?_
    have hr := Option.some.inj h
    subst hr
    exact ret_objs (.inr rfl) [] (objs' := []) (new := []) rfl (by simp) (by simp) rfl (by repeat' first | exact trivial | refine ⟨?_, ?_⟩) rfl rfl (by repeat' first | exact trivial | refine ⟨?_, ?_⟩) (fun _ => ⟨by simp [V.flat, V.flatA, V.flatC, D.flat], flat_nil⟩) ⟨rfl, rfl, rfl⟩
  · have h := if_f h hb3
    refine awl_skip rfl rfl ?_
    refine awl_skip rfl rfl ?_
    refine awl_skip rfl rfl ?_
    refine awl_val hτ rfl rfl rfl ?_
    refine awl_val hτ rfl rfl rfl ?_
    refine awl_nil ?_
    refine aw_weak (weak_ofP [] (l := [(6, .d (.bool false))]) (objs := []) rfl (by simp) rfl (by repeat' first | exact trivial | refine ⟨?_, ?_⟩) ⟨rfl, trivial, trivial⟩) ?_
    refine aw_ret ?_
    have hr := Option.some.inj h
    subst hr
    exact ret_objs (.inr rfl) [] (objs' := []) (new := []) rfl (by simp) (by simp) rfl (by repeat' first | exact trivial | refine ⟨?_, ?_⟩) rfl rfl (by repeat' first | exact trivial | refine ⟨?_, ?_⟩) (fun _ => ⟨by simp [V.flat, V.flatA, V.flatC, D.flat], flat_nil⟩) ⟨rfl, rfl, rfl⟩
theorem spec_l00In_ok (n : Nat) (n_ : Int) (low_ : Int) (high_ : Int) {r : Bool} (h : m_spec_l00In n n_ low_ high_ = some r) : ACall prog false 101 [.d (.int .i64 n_), .d (.int .i64 low_), .d (.int .i64 high_)] [] (fun v o new => v = .d (.bool r) ∧ o = [] ∧ new = []) := spec_l00In_ok_fr0 false n n_ low_ high_ h
theorem spec_l00In_ok_fr (n : Nat) (n_ : Int) (low_ : Int) (high_ : Int) {r : Bool} (h : m_spec_l00In n n_ low_ high_ = some r) : ACall prog true 101 [.d (.int .i64 n_), .d (.int .i64 low_), .d (.int .i64 high_)] [] (fun v o new => v = .d (.bool r) ∧ o = [] ∧ new = []) := spec_l00In_ok_fr0 true n n_ low_ high_ h

def m_spec_l02Bus_j1 (n : Nat) (b_ : SBus) (index_ : Int) : Option Bool :=
  if index_ = (0 : Int) then
    if b_.Parent = (-1 : Int) then
      if (fcmp .eql .f32 b_.Own.re (0 : Nat) && fcmp .eql .f32 b_.Own.im (0 : Nat)) = true then
        some (fcmp .eql .f32 b_.Shared.re (0 : Nat) && fcmp .eql .f32 b_.Shared.im (0 : Nat))
      else
        some false
    else
      some false
  else
    (m_spec_l00In n b_.Parent (0 : Int) (w64 (index_ - (1 : Int)))).bind fun x21 =>
    some x21
def m_spec_l02Bus_j2 (n : Nat) (b_ : SBus) (index_ : Int) (v27 : Bool) : Option Bool :=
  if v27 = true then
    some false
  else
    m_spec_l02Bus_j1 n b_ index_
def m_spec_l02Bus (n : Nat) (b_ : SBus) (index_ : Int) : Option Bool :=
  (m_spec_l00In n b_.Kind (0 : Int) (2 : Int)).bind fun x30 =>
  if x30 = true then
    (m_spec_l00In n b_.Customers (0 : Int) (1000000 : Int)).bind fun x32 =>
    m_spec_l02Bus_j2 n b_ index_ (!x32)
  else
    m_spec_l02Bus_j2 n b_ index_ true
theorem spec_l02Bus_ok_fr0 (fr : Bool) (n : Nat) (b_ : SBus) (index_ : Int) {r : Bool} (h : m_spec_l02Bus n b_ index_ = some r) : ACall prog fr 99 [.rop [.int .i64 b_.Parent, .cx .f32 b_.Own.re b_.Own.im, .cx .f32 b_.Shared.re b_.Shared.im, .int .i64 b_.Kind, .cx .f32 b_.Load.A.re b_.Load.A.im, .cx .f32 b_.Load.B.re b_.Load.B.im, .cx .f32 b_.Load.C.re b_.Load.C.im, .int .i64 b_.Customers] 0, .d (.int .i64 index_)] [] (fun v o new => v = .d (.bool r) ∧ o = [] ∧ new = []) := by
  refine acall_of_aw hτ func99 rfl (by simp) (by simp) ?_
  unfold m_spec_l02Bus at h
  refine aw_seq ?_
  refine aw_region ?_
  refine awl_val hτ rfl rfl rfl ?_
  refine awl_nil ?_
  refine aw_hk1 (ι := Unit) (fun _ => St.of [(0, .rop [.int .i64 b_.Parent, .cx .f32 b_.Own.re b_.Own.im, .cx .f32 b_.Shared.re b_.Shared.im, .int .i64 b_.Kind, .cx .f32 b_.Load.A.re b_.Load.A.im, .cx .f32 b_.Load.B.re b_.Load.B.im, .cx .f32 b_.Load.C.re b_.Load.C.im, .int .i64 b_.Customers] 0), (1, .d (.int .i64 index_))] [] f99.ntmps 0) (fun _ => m_spec_l02Bus_j1 n b_ index_ = some r) ?_ (fun hk22 => ?_)
  · rintro ⟨⟩ h
    replace h : m_spec_l02Bus_j1 n b_ index_ = some r := h
    unfold m_spec_l02Bus_j1 at h
    refine aw_seq ?_
    refine aw_seq ?_
    refine aw_region ?_
    refine awl_val hτ rfl rfl rfl ?_
    refine awl_val hτ (v := .d (.bool (decide (index_ = (0 : Int))))) rfl rfl (or_ieq _ _) ?_
    refine awl_nil ?_
    refine aw_cond rfl (fun hc18 => ?_) (fun hc18 => ?_)
    · have h := if_t h hc18
      refine aw_seq ?_
      refine aw_region ?_
      refine awl_val hτ rfl rfl rfl ?_
      refine awl_val hτ rfl rfl rfl ?_
      refine awl_val hτ rfl rfl rfl ?_
      refine awl_val hτ rfl rfl rfl ?_
      refine awl_val hτ (v := .d (.bool (decide (b_.Parent = (-1 : Int))))) rfl rfl (or_ieq _ _) ?_
      refine awl_val hτ rfl rfl rfl ?_
      refine awl_split 26 rfl (fun hb19 => ?_) (fun hb19 => ?_)
      · have h := if_t h hb19
        refine awl_val hτ rfl rfl rfl ?_
        refine awl_val hτ rfl rfl rfl ?_
        refine awl_val hτ rfl rfl rfl ?_
        refine awl_val hτ rfl rfl rfl ?_
        refine awl_weak (weak_ofP [] (l := [(0, .rop [.int .i64 b_.Parent, .cx .f32 b_.Own.re b_.Own.im, .cx .f32 b_.Shared.re b_.Shared.im, .int .i64 b_.Kind, .cx .f32 b_.Load.A.re b_.Load.A.im, .cx .f32 b_.Load.B.re b_.Load.B.im, .cx .f32 b_.Load.C.re b_.Load.C.im, .int .i64 b_.Customers] 0), (26, .d (.bool true)), (30, .d (.cx .f32 b_.Own.re b_.Own.im))]) (objs := []) rfl (by simp) rfl (by repeat' first | exact trivial | refine ⟨?_, ?_⟩) ⟨rfl, trivial, rfl, trivial, rfl, trivial, trivial⟩) ?_
        refine awl_val hτ rfl rfl rfl ?_
        refine awl_val hτ rfl rfl rfl ?_
        refine awl_val hτ rfl rfl rfl ?_
        refine awl_split 33 rfl (fun hb20 => ?_) (fun hb20 => ?_)
        · have h := if_bt h hb20
          refine awl_val hτ rfl rfl rfl ?_
          refine awl_val hτ rfl rfl rfl ?_
          refine awl_val hτ rfl rfl rfl ?_
          refine awl_val hτ rfl rfl rfl ?_
          refine awl_val hτ rfl rfl rfl ?_
          refine awl_val hτ rfl rfl rfl ?_
          refine awl_val hτ rfl rfl rfl ?_
          refine awl_nil ?_
          refine aw_weak (weak_ofP [] (l := [(4, .d (.bool (fcmp .eql .f32 b_.Shared.re (0 : Nat) && fcmp .eql .f32 b_.Shared.im (0 : Nat))))]) (objs := []) rfl (by simp) rfl (by repeat' first | exact trivial | refine ⟨?_, ?_⟩) ⟨rfl, trivial, trivial⟩) ?_
          refine aw_ret ?_
          have hr := Option.some.inj h
          subst hr
          exact ret_objs (.inr rfl) [] (objs' := []) (new := []) rfl (by simp) (by simp) rfl (by repeat' first | exact trivial | refine ⟨?_, ?_⟩) rfl rfl (by repeat' first | exact trivial | refine ⟨?_, ?_⟩) (fun _ => ⟨by simp [V.flat, V.flatA, V.flatC, D.flat], flat_nil⟩) ⟨rfl, rfl, rfl⟩
        · have h := if_bf h hb20
          refine awl_skip rfl rfl ?_
          refine awl_skip rfl rfl ?_
          refine awl_skip rfl rfl ?_
          refine awl_skip rfl rfl ?_
          refine awl_skip rfl rfl ?_
          refine awl_val hτ rfl rfl rfl ?_
          refine awl_val hτ rfl rfl rfl ?_
          refine awl_nil ?_
          refine aw_weak (weak_ofP [] (l := [(4, .d (.bool false))]) (objs := []) rfl (by simp) rfl (by repeat' first | exact trivial | refine ⟨?_, ?_⟩) ⟨rfl, trivial, trivial⟩) ?_
          refine aw_ret ?_
          have hr := Option.some.inj h
          subst hr
          exact ret_objs (.inr rfl) [] (objs' := []) (new := []) rfl (by simp) (by simp) rfl (by repeat' first | exact trivial | refine ⟨?_, ?_⟩) rfl rfl (by repeat' first | exact trivial | refine ⟨?_, ?_⟩) (fun _ => ⟨by simp [V.flat, V.flatA, V.flatC, D.flat], flat_nil⟩) ⟨rfl, rfl, rfl⟩
      · have h := if_f h hb19
        refine awl_skip rfl rfl ?_
        refine awl_skip rfl rfl ?_
        refine awl_skip rfl rfl ?_
        refine awl_skip rfl rfl ?_
        refine awl_weak (weak_ofP [] (l := [(0, .rop [.int .i64 b_.Parent, .cx .f32 b_.Own.re b_.Own.im, .cx .f32 b_.Shared.re b_.Shared.im, .int .i64 b_.Kind, .cx .f32 b_.Load.A.re b_.Load.A.im, .cx .f32 b_.Load.B.re b_.Load.B.im, .cx .f32 b_.Load.C.re b_.Load.C.im, .int .i64 b_.Customers] 0), (26, .d (.bool false)), (30, .und)]) (objs := []) rfl (by simp) rfl (by repeat' first | exact trivial | refine ⟨?_, ?_⟩) ⟨rfl, trivial, rfl, trivial, rfl, trivial, trivial⟩) ?_
        refine awl_skip rfl rfl ?_
        refine awl_val hτ rfl rfl rfl ?_
        refine awl_val hτ rfl rfl rfl ?_
        refine awl_skip rfl rfl ?_
        refine awl_skip rfl rfl ?_
        refine awl_skip rfl rfl ?_
        refine awl_skip rfl rfl ?_
        refine awl_skip rfl rfl ?_
        refine awl_val hτ rfl rfl rfl ?_
        refine awl_val hτ rfl rfl rfl ?_
        refine awl_nil ?_
        refine aw_weak (weak_ofP [] (l := [(4, .d (.bool false))]) (objs := []) rfl (by simp) rfl (by repeat' first | exact trivial | refine ⟨?_, ?_⟩) ⟨rfl, trivial, trivial⟩) ?_
        refine aw_ret ?_
        have hr := Option.some.inj h
        subst hr
        exact ret_objs (.inr rfl) [] (objs' := []) (new := []) rfl (by simp) (by simp) rfl (by repeat' first | exact trivial | refine ⟨?_, ?_⟩) rfl rfl (by repeat' first | exact trivial | refine ⟨?_, ?_⟩) (fun _ => ⟨by simp [V.flat, V.flatA, V.flatC, D.flat], flat_nil⟩) ⟨rfl, rfl, rfl⟩
    · have h := if_f h hc18
      refine aw_skip ?_
      refine aw_seq ?_
      refine aw_region ?_
      refine awl_val hτ rfl rfl rfl ?_
      refine awl_val hτ rfl rfl rfl ?_
      refine awl_val hτ rfl rfl rfl ?_
      refine awl_val hτ rfl rfl rfl ?_
      refine awl_val hτ rfl rfl rfl ?_
      refine awl_val hτ rfl rfl rfl ?_
      refine bnd_elim h fun x21 hx21 h => ?_
      refine awl_callP hτ false [] rfl rfl rfl (enterOk func101 rfl rfl) rfl rfl (by simp) ⟨trivial, trivial, trivial, trivial⟩ (by repeat' first | exact trivial | refine ⟨?_, ?_⟩) (spec_l00In_ok n b_.Parent (0 : Int) (w64 (index_ - (1 : Int))) hx21) ?_
      rintro r0 o0 n0 ⟨rfl, rfl, rfl⟩ -
      refine awl_val hτ rfl rfl rfl ?_
      refine awl_nil ?_
      refine aw_weak (weak_ofP [] (l := [(4, .d (.bool x21))]) (objs := []) rfl (by simp) rfl (by repeat' first | exact trivial | refine ⟨?_, ?_⟩) ⟨rfl, trivial, trivial⟩) ?_
      refine aw_ret ?_
      have hr := Option.some.inj h
      subst hr
      exact ret_objs (.inr rfl) [] (objs' := []) (new := []) rfl (by simp) (by simp) rfl (by repeat' first | exact trivial | refine ⟨?_, ?_⟩) rfl rfl (by repeat' first | exact trivial | refine ⟨?_, ?_⟩) (fun _ => ⟨by simp [V.flat, V.flatA, V.flatC, D.flat], flat_nil⟩) ⟨rfl, rfl, rfl⟩
  · refine aw_seq ?_
    refine aw_hk1 (ι := Bool) (fun v27 => St.of [(0, .rop [.int .i64 b_.Parent, .cx .f32 b_.Own.re b_.Own.im, .cx .f32 b_.Shared.re b_.Shared.im, .int .i64 b_.Kind, .cx .f32 b_.Load.A.re b_.Load.A.im, .cx .f32 b_.Load.B.re b_.Load.B.im, .cx .f32 b_.Load.C.re b_.Load.C.im, .int .i64 b_.Customers] 0), (1, .d (.int .i64 index_)), (18, .d (.bool v27))] [] f99.ntmps 0) (fun v27 => m_spec_l02Bus_j2 n b_ index_ v27 = some r) ?_ (fun hk29 => ?_)
    · rintro v27 h
      replace h : m_spec_l02Bus_j2 n b_ index_ v27 = some r := h
      unfold m_spec_l02Bus_j2 at h
      refine aw_cond rfl (fun hc28 => ?_) (fun hc28 => ?_)
      · have h := if_bt h hc28
        refine aw_seq ?_
        refine aw_region ?_
        refine awl_val hτ rfl rfl rfl ?_
        refine awl_nil ?_
        refine aw_weak (weak_ofP [] (l := [(4, .d (.bool false))]) (objs := []) rfl (by simp) rfl (by repeat' first | exact trivial | refine ⟨?_, ?_⟩) ⟨rfl, trivial, trivial⟩) ?_
        refine aw_ret ?_
        have hr := Option.some.inj h
        subst hr
        exact ret_objs (.inr rfl) [] (objs' := []) (new := []) rfl (by simp) (by simp) rfl (by repeat' first | exact trivial | refine ⟨?_, ?_⟩) rfl rfl (by repeat' first | exact trivial | refine ⟨?_, ?_⟩) (fun _ => ⟨by simp [V.flat, V.flatA, V.flatC, D.flat], flat_nil⟩) ⟨rfl, rfl, rfl⟩
      · have h := if_bf h hc28
        refine aw_skip ?_
        refine aw_weak (weak_ofP [] (l := [(0, .rop [.int .i64 b_.Parent, .cx .f32 b_.Own.re b_.Own.im, .cx .f32 b_.Shared.re b_.Shared.im, .int .i64 b_.Kind, .cx .f32 b_.Load.A.re b_.Load.A.im, .cx .f32 b_.Load.B.re b_.Load.B.im, .cx .f32 b_.Load.C.re b_.Load.C.im, .int .i64 b_.Customers] 0), (1, .d (.int .i64 index_))]) (objs := []) rfl (by simp) rfl (by repeat' first | exact trivial | refine ⟨?_, ?_⟩) ⟨rfl, trivial, rfl, trivial, trivial⟩) ?_
        exact hk22 () h
    · refine aw_seq ?_
      refine aw_region ?_
      refine awl_val hτ rfl rfl rfl ?_
      refine awl_val hτ rfl rfl rfl ?_
      refine awl_val hτ rfl rfl rfl ?_
      refine awl_val hτ rfl rfl rfl ?_
      refine bnd_elim h fun x30 hx30 h => ?_
      refine awl_callP hτ false [] rfl rfl rfl (enterOk func101 rfl rfl) rfl rfl (by simp) ⟨trivial, trivial, trivial, trivial⟩ (by repeat' first | exact trivial | refine ⟨?_, ?_⟩) (spec_l00In_ok n b_.Kind (0 : Int) (2 : Int) hx30) ?_
      rintro r0 o0 n0 ⟨rfl, rfl, rfl⟩ -
      refine awl_val hτ rfl rfl rfl ?_
      refine awl_val hτ rfl rfl rfl ?_
      refine awl_split 11 rfl (fun hb31 => ?_) (fun hb31 => ?_)
      · have hb31 := not_t hb31
        have h := if_bf h hb31
        refine awl_skip rfl rfl ?_
        refine awl_skip rfl rfl ?_
        refine awl_skip rfl rfl ?_
        refine awl_skip rfl rfl ?_
        refine awl_weak (weak_ofP [] (l := [(0, .rop [.int .i64 b_.Parent, .cx .f32 b_.Own.re b_.Own.im, .cx .f32 b_.Shared.re b_.Shared.im, .int .i64 b_.Kind, .cx .f32 b_.Load.A.re b_.Load.A.im, .cx .f32 b_.Load.B.re b_.Load.B.im, .cx .f32 b_.Load.C.re b_.Load.C.im, .int .i64 b_.Customers] 0), (1, .d (.int .i64 index_)), (11, .d (.bool true)), (15, .und)]) (objs := []) rfl (by simp) rfl (by repeat' first | exact trivial | refine ⟨?_, ?_⟩) ⟨rfl, trivial, rfl, trivial, rfl, trivial, rfl, trivial, trivial⟩) ?_
        refine awl_skip rfl rfl ?_
        refine awl_skip rfl rfl ?_
        refine awl_val hτ rfl rfl rfl ?_
        refine awl_nil ?_
        refine aw_weak (weak_ofP [] (l := [(0, .rop [.int .i64 b_.Parent, .cx .f32 b_.Own.re b_.Own.im, .cx .f32 b_.Shared.re b_.Shared.im, .int .i64 b_.Kind, .cx .f32 b_.Load.A.re b_.Load.A.im, .cx .f32 b_.Load.B.re b_.Load.B.im, .cx .f32 b_.Load.C.re b_.Load.C.im, .int .i64 b_.Customers] 0), (1, .d (.int .i64 index_)), (18, .d (.bool true))]) (objs := []) rfl (by simp) rfl (by repeat' first | exact trivial | refine ⟨?_, ?_⟩) ⟨rfl, trivial, rfl, trivial, rfl, trivial, trivial⟩) ?_
        exact hk29 true h
      · have hb31 := not_f hb31
        have h := if_bt h hb31
        refine awl_val hτ rfl rfl rfl ?_
        refine awl_val hτ rfl rfl rfl ?_
        refine awl_val hτ rfl rfl rfl ?_
        refine awl_val hτ rfl rfl rfl ?_
        refine awl_weak (weak_ofP [] (l := [(0, .rop [.int .i64 b_.Parent, .cx .f32 b_.Own.re b_.Own.im, .cx .f32 b_.Shared.re b_.Shared.im, .int .i64 b_.Kind, .cx .f32 b_.Load.A.re b_.Load.A.im, .cx .f32 b_.Load.B.re b_.Load.B.im, .cx .f32 b_.Load.C.re b_.Load.C.im, .int .i64 b_.Customers] 0), (1, .d (.int .i64 index_)), (11, .d (.bool false)), (15, .d (.int .i64 b_.Customers))]) (objs := []) rfl (by simp) rfl (by repeat' first | exact trivial | refine ⟨?_, ?_⟩) ⟨rfl, trivial, rfl, trivial, rfl, trivial, rfl, trivial, trivial⟩) ?_
        refine bnd_elim h fun x32 hx32 h => ?_
        refine awl_callP hτ false [] rfl rfl rfl (enterOk func101 rfl rfl) rfl rfl (by simp) ⟨trivial, trivial, trivial, trivial⟩ (by repeat' first | exact trivial | refine ⟨?_, ?_⟩) (spec_l00In_ok n b_.Customers (0 : Int) (1000000 : Int) hx32) ?_
        rintro r0 o0 n0 ⟨rfl, rfl, rfl⟩ -
        refine awl_val hτ rfl rfl rfl ?_
        refine awl_val hτ rfl rfl rfl ?_
        refine awl_nil ?_
        refine aw_weak (weak_ofP [] (l := [(0, .rop [.int .i64 b_.Parent, .cx .f32 b_.Own.re b_.Own.im, .cx .f32 b_.Shared.re b_.Shared.im, .int .i64 b_.Kind, .cx .f32 b_.Load.A.re b_.Load.A.im, .cx .f32 b_.Load.B.re b_.Load.B.im, .cx .f32 b_.Load.C.re b_.Load.C.im, .int .i64 b_.Customers] 0), (1, .d (.int .i64 index_)), (18, .d (.bool (!x32)))]) (objs := []) rfl (by simp) rfl (by repeat' first | exact trivial | refine ⟨?_, ?_⟩) ⟨rfl, trivial, rfl, trivial, rfl, trivial, trivial⟩) ?_
        exact hk29 (!x32) h
theorem spec_l02Bus_ok (n : Nat) (b_ : SBus) (index_ : Int) {r : Bool} (h : m_spec_l02Bus n b_ index_ = some r) : ACall prog false 99 [.rop [.int .i64 b_.Parent, .cx .f32 b_.Own.re b_.Own.im, .cx .f32 b_.Shared.re b_.Shared.im, .int .i64 b_.Kind, .cx .f32 b_.Load.A.re b_.Load.A.im, .cx .f32 b_.Load.B.re b_.Load.B.im, .cx .f32 b_.Load.C.re b_.Load.C.im, .int .i64 b_.Customers] 0, .d (.int .i64 index_)] [] (fun v o new => v = .d (.bool r) ∧ o = [] ∧ new = []) := spec_l02Bus_ok_fr0 false n b_ index_ h
theorem spec_l02Bus_ok_fr (n : Nat) (b_ : SBus) (index_ : Int) {r : Bool} (h : m_spec_l02Bus n b_ index_ = some r) : ACall prog true 99 [.rop [.int .i64 b_.Parent, .cx .f32 b_.Own.re b_.Own.im, .cx .f32 b_.Shared.re b_.Shared.im, .int .i64 b_.Kind, .cx .f32 b_.Load.A.re b_.Load.A.im, .cx .f32 b_.Load.B.re b_.Load.B.im, .cx .f32 b_.Load.C.re b_.Load.C.im, .int .i64 b_.Customers] 0, .d (.int .i64 index_)] [] (fun v o new => v = .d (.bool r) ∧ o = [] ∧ new = []) := spec_l02Bus_ok_fr0 true n b_ index_ h

def m_spec_l02Is_2_l2 (n : Nat) (f_ : SGrid) : Nat → Int → Option Bool
  | 0, _ => none
  | m17 + 1, v13 =>
    if v13 < (f_.Feeder.Buses.length : Int) then
      (getI f_.Feeder.Buses v13).bind fun x22 =>
      (m_spec_l02Bus n x22 v13).bind fun x23 =>
      if x23 = true then
        (m_spec_l02Is_2_l2 n f_ m17) (w64 (v13 + (1 : Int)))
      else
        some false
    else
      some true
def m_spec_l02Is_2_j1 (n : Nat) (f_ : SGrid) : Option Bool :=
  m_spec_l02Is_2_l2 n f_ n (0 : Int)
def m_spec_l02Is_2_j3 (n : Nat) (f_ : SGrid) (v28 : Bool) : Option Bool :=
  if v28 = true then
    some false
  else
    m_spec_l02Is_2_j1 n f_
def m_spec_l02Is_2 (n : Nat) (f_ : SGrid) : Option Bool :=
  if (f_.Feeder.Buses.length : Int) < (1 : Int) then
    m_spec_l02Is_2_j3 n f_ true
  else
    m_spec_l02Is_2_j3 n f_ (decide ((f_.Feeder.Buses.length : Int) > (16 : Int)))
theorem spec_l02Is_2_ok (n : Nat) (f_ : SGrid) {r : Bool} (h : m_spec_l02Is_2 n f_ = some r) : ACall prog false 55 [.ptr 0 0] [.box [.d (.cx .f32 f_.Feeder.Source.A.re f_.Feeder.Source.A.im), .d (.cx .f32 f_.Feeder.Source.B.re f_.Feeder.Source.B.im), .d (.cx .f32 f_.Feeder.Source.C.re f_.Feeder.Source.C.im), .d (.sl false (f_.Feeder.Buses.map eSBus)), .d (.sl false (f_.Ties.map eSTie))]] (fun v o new => v = .d (.bool r) ∧ o = [.box [.d (.cx .f32 f_.Feeder.Source.A.re f_.Feeder.Source.A.im), .d (.cx .f32 f_.Feeder.Source.B.re f_.Feeder.Source.B.im), .d (.cx .f32 f_.Feeder.Source.C.re f_.Feeder.Source.C.im), .d (.sl false (f_.Feeder.Buses.map eSBus)), .d (.sl false (f_.Ties.map eSTie))]] ∧ new = []) := by
  refine acall_of_aw hτ func55 rfl (by simp) (by simp) ?_
  unfold m_spec_l02Is_2 at h
  refine aw_seq ?_
  refine aw_region ?_
  refine awl_val hτ rfl rfl rfl ?_
  refine awl_nil ?_
  refine aw_hk1 (ι := Unit) (fun _ => St.of [(0, .ptr 0 0)] [.box [.d (.cx .f32 f_.Feeder.Source.A.re f_.Feeder.Source.A.im), .d (.cx .f32 f_.Feeder.Source.B.re f_.Feeder.Source.B.im), .d (.cx .f32 f_.Feeder.Source.C.re f_.Feeder.Source.C.im), .d (.sl false (f_.Feeder.Buses.map eSBus)), .d (.sl false (f_.Ties.map eSTie))]] f55.ntmps 1) (fun _ => m_spec_l02Is_2_j1 n f_ = some r) ?_ (fun hk25 => ?_)
  · rintro ⟨⟩ h
    replace h : m_spec_l02Is_2_j1 n f_ = some r := h
    unfold m_spec_l02Is_2_j1 at h
    refine aw_seq ?_
    refine aw_seq ?_
    refine aw_region ?_
    refine awl_val hτ rfl rfl rfl ?_
    refine awl_nil ?_
    refine aw_block ?_
    refine aw_loop (ι := Nat × Int) (fun (m17, v13) => St.of [(0, .ptr 0 0), (3, .d (.int .i64 v13))] [.box [.d (.cx .f32 f_.Feeder.Source.A.re f_.Feeder.Source.A.im), .d (.cx .f32 f_.Feeder.Source.B.re f_.Feeder.Source.B.im), .d (.cx .f32 f_.Feeder.Source.C.re f_.Feeder.Source.C.im), .d (.sl false (f_.Feeder.Buses.map eSBus)), .d (.sl false (f_.Ties.map eSTie))]] f55.ntmps 1) (fun (m17, v13) => m_spec_l02Is_2_l2 n f_ m17 v13 = some r) (fun x => x.1) (n, (0 : Int)) h (weak_ofP [0] (l := [(0, .ptr 0 0), (3, .d (.int .i64 (0 : Int)))]) (objs := [.box [.d (.cx .f32 f_.Feeder.Source.A.re f_.Feeder.Source.A.im), .d (.cx .f32 f_.Feeder.Source.B.re f_.Feeder.Source.B.im), .d (.cx .f32 f_.Feeder.Source.C.re f_.Feeder.Source.C.im), .d (.sl false (f_.Feeder.Buses.map eSBus)), .d (.sl false (f_.Ties.map eSTie))]]) rfl (by simp) rfl (by repeat' first | exact trivial | refine ⟨?_, ?_⟩) ⟨rfl, trivial, rfl, trivial, trivial⟩) ?_
    rintro ⟨m17, v13⟩ h
    replace h : m_spec_l02Is_2_l2 n f_ m17 v13 = some r := h
    rcases m17 with _ | m17
    · rw [m_spec_l02Is_2_l2] at h; cases h
    rw [m_spec_l02Is_2_l2] at h
    refine aw_seq ?_
    refine aw_seq ?_
    refine aw_region ?_
    refine awl_val hτ rfl rfl rfl ?_
    refine awl_val hτ rfl rfl rfl ?_
    refine awl_val hτ rfl rfl rfl ?_
    refine awl_val hτ rfl rfl rfl ?_
    refine awl_val hτ rfl rfl rfl ?_
    refine awl_val hτ (v := .d (.int .i64 (f_.Feeder.Buses.length : Int))) rfl rfl (Eq.trans rfl (or_len (f := eSBus) f_.Feeder.Buses)) ?_
    refine awl_val hτ rfl rfl rfl ?_
    refine awl_nil ?_
    refine aw_weak (weak_ofP [0] (l := [(0, .ptr 0 0), (3, .d (.int .i64 v13)), (24, .d (.bool (decide (v13 < (f_.Feeder.Buses.length : Int)))))]) (objs := [.box [.d (.cx .f32 f_.Feeder.Source.A.re f_.Feeder.Source.A.im), .d (.cx .f32 f_.Feeder.Source.B.re f_.Feeder.Source.B.im), .d (.cx .f32 f_.Feeder.Source.C.re f_.Feeder.Source.C.im), .d (.sl false (f_.Feeder.Buses.map eSBus)), .d (.sl false (f_.Ties.map eSTie))]]) rfl (by simp) rfl (by repeat' first | exact trivial | refine ⟨?_, ?_⟩) ⟨rfl, trivial, rfl, trivial, rfl, trivial, trivial⟩) ?_
    refine aw_cond rfl (fun hc19 => ?_) (fun hc19 => ?_)
    · have h := if_t h hc19
      refine aw_skip ?_
      refine aw_seq ?_
      refine aw_block ?_
      refine aw_seq ?_
      refine aw_region ?_
      refine awl_val hτ rfl rfl rfl ?_
      refine awl_val hτ rfl rfl rfl ?_
      refine awl_val hτ rfl rfl rfl ?_
      refine awl_val hτ rfl rfl rfl ?_
      refine awl_val hτ rfl rfl rfl ?_
      refine bnd_elim h fun x22 hx22 h => ?_
      refine awl_elem hτ rfl rfl rfl (getI_some hx22).1 (map_getI hx22) rfl ?_
      refine awl_val hτ rfl rfl rfl ?_
      refine bnd_elim h fun x23 hx23 h => ?_
      refine awl_callP hτ false [] rfl rfl rfl (enterOk func99 rfl rfl) rfl rfl (by simp) ⟨trivial, trivial, trivial⟩ (by repeat' first | exact trivial | refine ⟨?_, ?_⟩) (spec_l02Bus_ok n x22 v13 hx23) ?_
      rintro r0 o0 n0 ⟨rfl, rfl, rfl⟩ -
      refine awl_val hτ rfl rfl rfl ?_
      refine awl_nil ?_
      refine aw_weak (weak_ofP [0] (l := [(0, .ptr 0 0), (3, .d (.int .i64 v13)), (35, .d (.bool (!x23)))]) (objs := [.box [.d (.cx .f32 f_.Feeder.Source.A.re f_.Feeder.Source.A.im), .d (.cx .f32 f_.Feeder.Source.B.re f_.Feeder.Source.B.im), .d (.cx .f32 f_.Feeder.Source.C.re f_.Feeder.Source.C.im), .d (.sl false (f_.Feeder.Buses.map eSBus)), .d (.sl false (f_.Ties.map eSTie))]]) rfl (by simp) rfl (by repeat' first | exact trivial | refine ⟨?_, ?_⟩) ⟨rfl, trivial, rfl, trivial, rfl, trivial, trivial⟩) ?_
      refine aw_cond rfl (fun hc24 => ?_) (fun hc24 => ?_)
      · have hc24 := not_t hc24
        have h := if_bf h hc24
        refine aw_seq ?_
        refine aw_region ?_
        refine awl_val hτ rfl rfl rfl ?_
        refine awl_nil ?_
        refine aw_weak (weak_ofP [0] (l := [(2, .d (.bool false))]) (objs := [.box [.d (.cx .f32 f_.Feeder.Source.A.re f_.Feeder.Source.A.im), .d (.cx .f32 f_.Feeder.Source.B.re f_.Feeder.Source.B.im), .d (.cx .f32 f_.Feeder.Source.C.re f_.Feeder.Source.C.im), .d (.sl false (f_.Feeder.Buses.map eSBus)), .d (.sl false (f_.Ties.map eSTie))]]) rfl (by simp) rfl (by repeat' first | exact trivial | refine ⟨?_, ?_⟩) ⟨rfl, trivial, trivial⟩) ?_
        refine aw_ret ?_
        have hr := Option.some.inj h
        subst hr
        exact ret_objs (.inr rfl) [] (objs' := [.box [.d (.cx .f32 f_.Feeder.Source.A.re f_.Feeder.Source.A.im), .d (.cx .f32 f_.Feeder.Source.B.re f_.Feeder.Source.B.im), .d (.cx .f32 f_.Feeder.Source.C.re f_.Feeder.Source.C.im), .d (.sl false (f_.Feeder.Buses.map eSBus)), .d (.sl false (f_.Ties.map eSTie))]]) (new := []) rfl (by simp) (by simp) rfl (by repeat' first | exact trivial | refine ⟨?_, ?_⟩) rfl rfl (by repeat' first | exact trivial | refine ⟨?_, ?_⟩) (fun h => nomatch h) ⟨rfl, rfl, rfl⟩
      · have hc24 := not_f hc24
        have h := if_bt h hc24
        refine aw_skip ?_
        refine aw_region ?_
        refine awl_val hτ rfl rfl rfl ?_
        refine awl_val hτ rfl rfl rfl ?_
        refine awl_val hτ rfl rfl rfl ?_
        refine awl_nil ?_
        exact ⟨(m17, (w64 (v13 + (1 : Int)))), h, Nat.lt_succ_self m17, (weak_ofP [0] (l := [(0, .ptr 0 0), (3, .d (.int .i64 (w64 (v13 + (1 : Int)))))]) (objs := [.box [.d (.cx .f32 f_.Feeder.Source.A.re f_.Feeder.Source.A.im), .d (.cx .f32 f_.Feeder.Source.B.re f_.Feeder.Source.B.im), .d (.cx .f32 f_.Feeder.Source.C.re f_.Feeder.Source.C.im), .d (.sl false (f_.Feeder.Buses.map eSBus)), .d (.sl false (f_.Ties.map eSTie))]]) rfl (by simp) rfl (by repeat' first | exact trivial | refine ⟨?_, ?_⟩) ⟨rfl, trivial, rfl, trivial, trivial⟩)⟩
    · have h := if_f h hc19
      refine aw_exit ?_
      refine aw_seq ?_
      refine aw_region ?_
      refine awl_val hτ rfl rfl rfl ?_
      refine awl_nil ?_
      refine aw_weak (weak_ofP [0] (l := [(2, .d (.bool true))]) (objs := [.box [.d (.cx .f32 f_.Feeder.Source.A.re f_.Feeder.Source.A.im), .d (.cx .f32 f_.Feeder.Source.B.re f_.Feeder.Source.B.im), .d (.cx .f32 f_.Feeder.Source.C.re f_.Feeder.Source.C.im), .d (.sl false (f_.Feeder.Buses.map eSBus)), .d (.sl false (f_.Ties.map eSTie))]]) rfl (by simp) rfl (by repeat' first | exact trivial | refine ⟨?_, ?_⟩) ⟨rfl, trivial, trivial⟩) ?_
      refine aw_ret ?_
      have hr := Option.some.inj h
      subst hr
      exact ret_objs (.inr rfl) [] (objs' := [.box [.d (.cx .f32 f_.Feeder.Source.A.re f_.Feeder.Source.A.im), .d (.cx .f32 f_.Feeder.Source.B.re f_.Feeder.Source.B.im), .d (.cx .f32 f_.Feeder.Source.C.re f_.Feeder.Source.C.im), .d (.sl false (f_.Feeder.Buses.map eSBus)), .d (.sl false (f_.Ties.map eSTie))]]) (new := []) rfl (by simp) (by simp) rfl (by repeat' first | exact trivial | refine ⟨?_, ?_⟩) rfl rfl (by repeat' first | exact trivial | refine ⟨?_, ?_⟩) (fun h => nomatch h) ⟨rfl, rfl, rfl⟩
  · refine aw_seq ?_
    refine aw_hk1 (ι := Bool) (fun v28 => St.of [(0, .ptr 0 0), (17, .d (.bool v28))] [.box [.d (.cx .f32 f_.Feeder.Source.A.re f_.Feeder.Source.A.im), .d (.cx .f32 f_.Feeder.Source.B.re f_.Feeder.Source.B.im), .d (.cx .f32 f_.Feeder.Source.C.re f_.Feeder.Source.C.im), .d (.sl false (f_.Feeder.Buses.map eSBus)), .d (.sl false (f_.Ties.map eSTie))]] f55.ntmps 1) (fun v28 => m_spec_l02Is_2_j3 n f_ v28 = some r) ?_ (fun hk30 => ?_)
    · rintro v28 h
      replace h : m_spec_l02Is_2_j3 n f_ v28 = some r := h
      unfold m_spec_l02Is_2_j3 at h
      refine aw_cond rfl (fun hc29 => ?_) (fun hc29 => ?_)
      · have h := if_bt h hc29
        refine aw_seq ?_
        refine aw_region ?_
        refine awl_val hτ rfl rfl rfl ?_
        refine awl_nil ?_
        refine aw_weak (weak_ofP [0] (l := [(2, .d (.bool false))]) (objs := [.box [.d (.cx .f32 f_.Feeder.Source.A.re f_.Feeder.Source.A.im), .d (.cx .f32 f_.Feeder.Source.B.re f_.Feeder.Source.B.im), .d (.cx .f32 f_.Feeder.Source.C.re f_.Feeder.Source.C.im), .d (.sl false (f_.Feeder.Buses.map eSBus)), .d (.sl false (f_.Ties.map eSTie))]]) rfl (by simp) rfl (by repeat' first | exact trivial | refine ⟨?_, ?_⟩) ⟨rfl, trivial, trivial⟩) ?_
        refine aw_ret ?_
        have hr := Option.some.inj h
        subst hr
        exact ret_objs (.inr rfl) [] (objs' := [.box [.d (.cx .f32 f_.Feeder.Source.A.re f_.Feeder.Source.A.im), .d (.cx .f32 f_.Feeder.Source.B.re f_.Feeder.Source.B.im), .d (.cx .f32 f_.Feeder.Source.C.re f_.Feeder.Source.C.im), .d (.sl false (f_.Feeder.Buses.map eSBus)), .d (.sl false (f_.Ties.map eSTie))]]) (new := []) rfl (by simp) (by simp) rfl (by repeat' first | exact trivial | refine ⟨?_, ?_⟩) rfl rfl (by repeat' first | exact trivial | refine ⟨?_, ?_⟩) (fun h => nomatch h) ⟨rfl, rfl, rfl⟩
      · have h := if_bf h hc29
        refine aw_skip ?_
        refine aw_weak (weak_ofP [0] (l := [(0, .ptr 0 0)]) (objs := [.box [.d (.cx .f32 f_.Feeder.Source.A.re f_.Feeder.Source.A.im), .d (.cx .f32 f_.Feeder.Source.B.re f_.Feeder.Source.B.im), .d (.cx .f32 f_.Feeder.Source.C.re f_.Feeder.Source.C.im), .d (.sl false (f_.Feeder.Buses.map eSBus)), .d (.sl false (f_.Ties.map eSTie))]]) rfl (by simp) rfl (by repeat' first | exact trivial | refine ⟨?_, ?_⟩) ⟨rfl, trivial, trivial⟩) ?_
        exact hk25 () h
    · refine aw_seq ?_
      refine aw_region ?_
      refine awl_val hτ rfl rfl rfl ?_
      refine awl_val hτ rfl rfl rfl ?_
      refine awl_val hτ rfl rfl rfl ?_
      refine awl_val hτ rfl rfl rfl ?_
      refine awl_val hτ (v := .d (.int .i64 (f_.Feeder.Buses.length : Int))) rfl rfl (Eq.trans rfl (or_len (f := eSBus) f_.Feeder.Buses)) ?_
      refine awl_val hτ rfl rfl rfl ?_
      refine awl_val hτ rfl rfl rfl ?_
      refine awl_split 10 rfl (fun hb31 => ?_) (fun hb31 => ?_)
      · have h := if_t h hb31
        refine awl_skip rfl rfl ?_
        refine awl_skip rfl rfl ?_
        refine awl_skip rfl rfl ?_
        refine awl_skip rfl rfl ?_
        refine awl_weak (weak_ofP [0] (l := [(0, .ptr 0 0), (10, .d (.bool true)), (14, .und)]) (objs := [.box [.d (.cx .f32 f_.Feeder.Source.A.re f_.Feeder.Source.A.im), .d (.cx .f32 f_.Feeder.Source.B.re f_.Feeder.Source.B.im), .d (.cx .f32 f_.Feeder.Source.C.re f_.Feeder.Source.C.im), .d (.sl false (f_.Feeder.Buses.map eSBus)), .d (.sl false (f_.Ties.map eSTie))]]) rfl (by simp) rfl (by repeat' first | exact trivial | refine ⟨?_, ?_⟩) ⟨rfl, trivial, rfl, trivial, rfl, trivial, trivial⟩) ?_
        refine awl_skip rfl rfl ?_
        refine awl_skip rfl rfl ?_
        refine awl_val hτ rfl rfl rfl ?_
        refine awl_nil ?_
        refine aw_weak (weak_ofP [0] (l := [(0, .ptr 0 0), (17, .d (.bool true))]) (objs := [.box [.d (.cx .f32 f_.Feeder.Source.A.re f_.Feeder.Source.A.im), .d (.cx .f32 f_.Feeder.Source.B.re f_.Feeder.Source.B.im), .d (.cx .f32 f_.Feeder.Source.C.re f_.Feeder.Source.C.im), .d (.sl false (f_.Feeder.Buses.map eSBus)), .d (.sl false (f_.Ties.map eSTie))]]) rfl (by simp) rfl (by repeat' first | exact trivial | refine ⟨?_, ?_⟩) ⟨rfl, trivial, rfl, trivial, trivial⟩) ?_
        exact hk30 true h
      · have h := if_f h hb31
        refine awl_val hτ rfl rfl rfl ?_
        refine awl_val hτ rfl rfl rfl ?_
        refine awl_val hτ rfl rfl rfl ?_
        refine awl_val hτ rfl rfl rfl ?_
        refine awl_weak (weak_ofP [0] (l := [(0, .ptr 0 0), (10, .d (.bool false)), (14, .d (.sl false (f_.Feeder.Buses.map eSBus)))]) (objs := [.box [.d (.cx .f32 f_.Feeder.Source.A.re f_.Feeder.Source.A.im), .d (.cx .f32 f_.Feeder.Source.B.re f_.Feeder.Source.B.im), .d (.cx .f32 f_.Feeder.Source.C.re f_.Feeder.Source.C.im), .d (.sl false (f_.Feeder.Buses.map eSBus)), .d (.sl false (f_.Ties.map eSTie))]]) rfl (by simp) rfl (by repeat' first | exact trivial | refine ⟨?_, ?_⟩) ⟨rfl, trivial, rfl, trivial, rfl, trivial, trivial⟩) ?_
        refine awl_val hτ (v := .d (.int .i64 (f_.Feeder.Buses.length : Int))) rfl rfl (Eq.trans rfl (or_len (f := eSBus) f_.Feeder.Buses)) ?_
        refine awl_val hτ rfl rfl rfl ?_
        refine awl_val hτ rfl rfl rfl ?_
        refine awl_nil ?_
        refine aw_weak (weak_ofP [0] (l := [(0, .ptr 0 0), (17, .d (.bool (decide ((f_.Feeder.Buses.length : Int) > (16 : Int)))))]) (objs := [.box [.d (.cx .f32 f_.Feeder.Source.A.re f_.Feeder.Source.A.im), .d (.cx .f32 f_.Feeder.Source.B.re f_.Feeder.Source.B.im), .d (.cx .f32 f_.Feeder.Source.C.re f_.Feeder.Source.C.im), .d (.sl false (f_.Feeder.Buses.map eSBus)), .d (.sl false (f_.Ties.map eSTie))]]) rfl (by simp) rfl (by repeat' first | exact trivial | refine ⟨?_, ?_⟩) ⟨rfl, trivial, rfl, trivial, trivial⟩) ?_
        exact hk30 (decide ((f_.Feeder.Buses.length : Int) > (16 : Int))) h

def m_spec_l02At (n : Nat) (f_ : SGrid) (bus_ : Int) : Option Bool :=
  (m_spec_l00In n bus_ (0 : Int) (w64 ((f_.Feeder.Buses.length : Int) - (1 : Int)))).bind fun x2 =>
  some x2
theorem spec_l02At_ok (n : Nat) (f_ : SGrid) (bus_ : Int) {r : Bool} (h : m_spec_l02At n f_ bus_ = some r) : ACall prog false 153 [.ptr 0 0, .d (.int .i64 bus_)] [.box [.d (.cx .f32 f_.Feeder.Source.A.re f_.Feeder.Source.A.im), .d (.cx .f32 f_.Feeder.Source.B.re f_.Feeder.Source.B.im), .d (.cx .f32 f_.Feeder.Source.C.re f_.Feeder.Source.C.im), .d (.sl false (f_.Feeder.Buses.map eSBus)), .d (.sl false (f_.Ties.map eSTie))]] (fun v o new => v = .d (.bool r) ∧ o = [.box [.d (.cx .f32 f_.Feeder.Source.A.re f_.Feeder.Source.A.im), .d (.cx .f32 f_.Feeder.Source.B.re f_.Feeder.Source.B.im), .d (.cx .f32 f_.Feeder.Source.C.re f_.Feeder.Source.C.im), .d (.sl false (f_.Feeder.Buses.map eSBus)), .d (.sl false (f_.Ties.map eSTie))]] ∧ new = []) := by
  refine acall_of_aw hτ func153 rfl (by simp) (by simp) ?_
  unfold m_spec_l02At at h
  refine aw_seq ?_
  refine aw_region ?_
  refine awl_val hτ rfl rfl rfl ?_
  refine awl_nil ?_
  refine aw_seq ?_
  refine aw_region ?_
  refine awl_val hτ rfl rfl rfl ?_
  refine awl_val hτ rfl rfl rfl ?_
  refine awl_val hτ rfl rfl rfl ?_
  refine awl_val hτ rfl rfl rfl ?_
  refine awl_val hτ rfl rfl rfl ?_
  refine awl_val hτ (v := .d (.int .i64 (f_.Feeder.Buses.length : Int))) rfl rfl (Eq.trans rfl (or_len (f := eSBus) f_.Feeder.Buses)) ?_
  refine awl_val hτ rfl rfl rfl ?_
  refine bnd_elim h fun x2 hx2 h => ?_
  refine awl_callP hτ false [] rfl rfl rfl (enterOk func101 rfl rfl) rfl rfl (by simp) ⟨trivial, trivial, trivial, trivial⟩ (by repeat' first | exact trivial | refine ⟨?_, ?_⟩) (spec_l00In_ok n bus_ (0 : Int) (w64 ((f_.Feeder.Buses.length : Int) - (1 : Int))) hx2) ?_
  rintro r0 o0 n0 ⟨rfl, rfl, rfl⟩ -
  refine awl_val hτ rfl rfl rfl ?_
  refine awl_nil ?_
  refine aw_weak (weak_ofP [0] (l := [(4, .d (.bool x2))]) (objs := [.box [.d (.cx .f32 f_.Feeder.Source.A.re f_.Feeder.Source.A.im), .d (.cx .f32 f_.Feeder.Source.B.re f_.Feeder.Source.B.im), .d (.cx .f32 f_.Feeder.Source.C.re f_.Feeder.Source.C.im), .d (.sl false (f_.Feeder.Buses.map eSBus)), .d (.sl false (f_.Ties.map eSTie))]]) rfl (by simp) rfl (by repeat' first | exact trivial | refine ⟨?_, ?_⟩) ⟨rfl, trivial, trivial⟩) ?_
  refine aw_ret ?_
  have hr := Option.some.inj h
  subst hr
  exact ret_objs (.inr rfl) [] (objs' := [.box [.d (.cx .f32 f_.Feeder.Source.A.re f_.Feeder.Source.A.im), .d (.cx .f32 f_.Feeder.Source.B.re f_.Feeder.Source.B.im), .d (.cx .f32 f_.Feeder.Source.C.re f_.Feeder.Source.C.im), .d (.sl false (f_.Feeder.Buses.map eSBus)), .d (.sl false (f_.Ties.map eSTie))]]) (new := []) rfl (by simp) (by simp) rfl (by repeat' first | exact trivial | refine ⟨?_, ?_⟩) rfl rfl (by repeat' first | exact trivial | refine ⟨?_, ?_⟩) (fun h => nomatch h) ⟨rfl, rfl, rfl⟩

def m_spec_l08Tie (n : Nat) (f_ : SGrid) (t_ : STie) : Option Bool :=
  (m_spec_l02At n f_ t_.A).bind fun x10 =>
  if x10 = true then
    (m_spec_l02At n f_ t_.B).bind fun x12 =>
    if x12 = true then
      if t_.A = t_.B then
        some false
      else
        (m_spec_l00In n t_.Most (0 : Int) (16000000 : Int)).bind fun x15 =>
        some x15
    else
      some false
  else
    some false
theorem spec_l08Tie_ok (n : Nat) (f_ : SGrid) (t_ : STie) {r : Bool} (h : m_spec_l08Tie n f_ t_ = some r) : ACall prog false 117 [.ptr 0 0, .rop [.int .i64 t_.A, .int .i64 t_.B, .cx .f32 t_.Own.re t_.Own.im, .cx .f32 t_.Shared.re t_.Shared.im, .int .i64 t_.Most] 0] [.box [.d (.cx .f32 f_.Feeder.Source.A.re f_.Feeder.Source.A.im), .d (.cx .f32 f_.Feeder.Source.B.re f_.Feeder.Source.B.im), .d (.cx .f32 f_.Feeder.Source.C.re f_.Feeder.Source.C.im), .d (.sl false (f_.Feeder.Buses.map eSBus)), .d (.sl false (f_.Ties.map eSTie))]] (fun v o new => v = .d (.bool r) ∧ o = [.box [.d (.cx .f32 f_.Feeder.Source.A.re f_.Feeder.Source.A.im), .d (.cx .f32 f_.Feeder.Source.B.re f_.Feeder.Source.B.im), .d (.cx .f32 f_.Feeder.Source.C.re f_.Feeder.Source.C.im), .d (.sl false (f_.Feeder.Buses.map eSBus)), .d (.sl false (f_.Ties.map eSTie))]] ∧ new = []) := by
  refine acall_of_aw hτ func117 rfl (by simp) (by simp) ?_
  unfold m_spec_l08Tie at h
  refine aw_seq ?_
  refine aw_region ?_
  refine awl_val hτ rfl rfl rfl ?_
  refine awl_nil ?_
  refine aw_seq ?_
  refine any_start ?_
  refine any_val hτ [] 0 rfl rfl rfl rfl rfl ?_
  refine any_val hτ [] 1 rfl rfl rfl rfl rfl ?_
  refine any_val hτ [] 2 rfl rfl rfl rfl rfl ?_
  refine any_val hτ [] 3 rfl rfl rfl rfl rfl ?_
  refine any_val hτ [] 4 rfl rfl rfl rfl rfl ?_
  refine bnd_elim h fun x10 hx10 h => ?_
  refine any_callP hτ false [0] [0] 5 rfl rfl rfl rfl (enterOk func153 rfl rfl) rfl rfl (by simp) ⟨trivial, trivial, trivial⟩ (by repeat' first | exact trivial | refine ⟨?_, ?_⟩) (spec_l02At_ok n f_ t_.A hx10) ⟨rfl, trivial⟩ ?_
  refine any_val hτ [] 6 rfl rfl rfl rfl rfl ?_
  refine any_split 11 rfl (fun hb11 => ?_) (fun hb11 => ?_)
  · have h := if_bt h hb11
    refine any_val hτ [] 7 rfl rfl rfl rfl rfl ?_
    refine any_val hτ [] 8 rfl rfl rfl rfl rfl ?_
    refine any_val hτ [] 9 rfl rfl rfl rfl rfl ?_
    refine any_val hτ [] 10 rfl rfl rfl rfl rfl ?_
    refine any_val hτ [] 11 rfl rfl rfl rfl rfl ?_
    refine bnd_elim h fun x12 hx12 h => ?_
    refine any_callP hτ false [0] [0] 12 rfl rfl rfl rfl (enterOk func153 rfl rfl) rfl rfl (by simp) ⟨trivial, trivial, trivial⟩ (by repeat' first | exact trivial | refine ⟨?_, ?_⟩) (spec_l02At_ok n f_ t_.B hx12) ⟨rfl, trivial⟩ ?_
    refine any_val hτ [] 13 rfl rfl rfl rfl rfl ?_
    refine any_val hτ [] 14 rfl rfl rfl rfl rfl ?_
    refine any_split 19 rfl (fun hb13 => ?_) (fun hb13 => ?_)
    · have h := if_bt h hb13
      refine any_val hτ [] 15 rfl rfl rfl rfl rfl ?_
      refine any_val hτ [] 16 rfl rfl rfl rfl rfl ?_
      refine any_val hτ [] 17 rfl rfl rfl rfl rfl ?_
      refine any_val hτ [] 18 rfl rfl rfl rfl rfl ?_
      refine any_val hτ [] 19 rfl rfl rfl rfl rfl ?_
      refine any_val hτ [] 20 rfl rfl rfl rfl rfl ?_
      refine any_val hτ [] 21 rfl rfl rfl rfl rfl ?_
      refine any_val hτ [] 22 rfl rfl rfl rfl rfl ?_
      refine any_val hτ (v := .d (.bool (!(decide (t_.A = t_.B))))) [] 23 rfl rfl rfl rfl (or_ine _ _) ?_
      refine any_val hτ [] 24 rfl rfl rfl rfl rfl ?_
      refine any_val hτ [] 25 rfl rfl rfl rfl rfl ?_
      refine any_split 30 rfl (fun hb14 => ?_) (fun hb14 => ?_)
      · have hb14 := not_t hb14
        have h := if_f h hb14
        refine any_val hτ [] 26 rfl rfl rfl rfl rfl ?_
        refine any_val hτ [] 27 rfl rfl rfl rfl rfl ?_
        refine any_val hτ [] 28 rfl rfl rfl rfl rfl ?_
        refine any_val hτ [] 29 rfl rfl rfl rfl rfl ?_
        refine bnd_elim h fun x15 hx15 h => ?_
        refine any_callP hτ false [] [0] 30 rfl rfl rfl rfl (enterOk func101 rfl rfl) rfl rfl (by simp) ⟨trivial, trivial, trivial, trivial⟩ (by repeat' first | exact trivial | refine ⟨?_, ?_⟩) (spec_l00In_ok n t_.Most (0 : Int) (16000000 : Int) hx15) ⟨rfl, trivial⟩ ?_
        refine any_val hτ [] 31 rfl rfl rfl rfl rfl ?_
        refine any_val hτ [] 32 rfl rfl rfl rfl rfl ?_
        refine any_done mixed (by kernel_rfl) ?_
        refine aw_weak (weak_ofP [0] (l := [(4, .d (.bool x15))]) (objs := [.box [.d (.cx .f32 f_.Feeder.Source.A.re f_.Feeder.Source.A.im), .d (.cx .f32 f_.Feeder.Source.B.re f_.Feeder.Source.B.im), .d (.cx .f32 f_.Feeder.Source.C.re f_.Feeder.Source.C.im), .d (.sl false (f_.Feeder.Buses.map eSBus)), .d (.sl false (f_.Ties.map eSTie))]]) rfl (by simp) rfl (by repeat' first | exact trivial | refine ⟨?_, ?_⟩) ⟨rfl, trivial, trivial⟩) ?_
        refine aw_ret ?_
        have hr := Option.some.inj h
        subst hr
        exact ret_objs (.inr rfl) [] (objs' := [.box [.d (.cx .f32 f_.Feeder.Source.A.re f_.Feeder.Source.A.im), .d (.cx .f32 f_.Feeder.Source.B.re f_.Feeder.Source.B.im), .d (.cx .f32 f_.Feeder.Source.C.re f_.Feeder.Source.C.im), .d (.sl false (f_.Feeder.Buses.map eSBus)), .d (.sl false (f_.Ties.map eSTie))]]) (new := []) rfl (by simp) (by simp) rfl (by repeat' first | exact trivial | refine ⟨?_, ?_⟩) rfl rfl (by repeat' first | exact trivial | refine ⟨?_, ?_⟩) (fun h => nomatch h) ⟨rfl, rfl, rfl⟩
      · have hb14 := not_f hb14
        have h := if_t h hb14
        refine any_skip 26 rfl rfl rfl ?_
        refine any_skip 27 rfl rfl rfl ?_
        refine any_skip 28 rfl rfl rfl ?_
        refine any_skip 29 rfl rfl rfl ?_
        refine any_skip 30 rfl rfl rfl ?_
        refine any_val hτ [] 31 rfl rfl rfl rfl rfl ?_
        refine any_val hτ [] 32 rfl rfl rfl rfl rfl ?_
        refine any_done mixed (by kernel_rfl) ?_
        refine aw_weak (weak_ofP [0] (l := [(4, .d (.bool false))]) (objs := [.box [.d (.cx .f32 f_.Feeder.Source.A.re f_.Feeder.Source.A.im), .d (.cx .f32 f_.Feeder.Source.B.re f_.Feeder.Source.B.im), .d (.cx .f32 f_.Feeder.Source.C.re f_.Feeder.Source.C.im), .d (.sl false (f_.Feeder.Buses.map eSBus)), .d (.sl false (f_.Ties.map eSTie))]]) rfl (by simp) rfl (by repeat' first | exact trivial | refine ⟨?_, ?_⟩) ⟨rfl, trivial, trivial⟩) ?_
        refine aw_ret ?_
        have hr := Option.some.inj h
        subst hr
        exact ret_objs (.inr rfl) [] (objs' := [.box [.d (.cx .f32 f_.Feeder.Source.A.re f_.Feeder.Source.A.im), .d (.cx .f32 f_.Feeder.Source.B.re f_.Feeder.Source.B.im), .d (.cx .f32 f_.Feeder.Source.C.re f_.Feeder.Source.C.im), .d (.sl false (f_.Feeder.Buses.map eSBus)), .d (.sl false (f_.Ties.map eSTie))]]) (new := []) rfl (by simp) (by simp) rfl (by repeat' first | exact trivial | refine ⟨?_, ?_⟩) rfl rfl (by repeat' first | exact trivial | refine ⟨?_, ?_⟩) (fun h => nomatch h) ⟨rfl, rfl, rfl⟩
    · have h := if_bf h hb13
      refine any_skip 15 rfl rfl rfl ?_
      refine any_skip 16 rfl rfl rfl ?_
      refine any_skip 17 rfl rfl rfl ?_
      refine any_skip 18 rfl rfl rfl ?_
      refine any_skip 19 rfl rfl rfl ?_
      refine any_skip 20 rfl rfl rfl ?_
      refine any_skip 21 rfl rfl rfl ?_
      refine any_skip 22 rfl rfl rfl ?_
      refine any_skip 23 rfl rfl rfl ?_
      refine any_val hτ [] 24 rfl rfl rfl rfl rfl ?_
      refine any_val hτ [] 25 rfl rfl rfl rfl rfl ?_
      refine any_skip 26 rfl rfl rfl ?_
      refine any_skip 27 rfl rfl rfl ?_
      refine any_skip 28 rfl rfl rfl ?_
      refine any_skip 29 rfl rfl rfl ?_
      refine any_skip 30 rfl rfl rfl ?_
      refine any_val hτ [] 31 rfl rfl rfl rfl rfl ?_
      refine any_val hτ [] 32 rfl rfl rfl rfl rfl ?_
      refine any_done mixed (by kernel_rfl) ?_
      refine aw_weak (weak_ofP [0] (l := [(4, .d (.bool false))]) (objs := [.box [.d (.cx .f32 f_.Feeder.Source.A.re f_.Feeder.Source.A.im), .d (.cx .f32 f_.Feeder.Source.B.re f_.Feeder.Source.B.im), .d (.cx .f32 f_.Feeder.Source.C.re f_.Feeder.Source.C.im), .d (.sl false (f_.Feeder.Buses.map eSBus)), .d (.sl false (f_.Ties.map eSTie))]]) rfl (by simp) rfl (by repeat' first | exact trivial | refine ⟨?_, ?_⟩) ⟨rfl, trivial, trivial⟩) ?_
      refine aw_ret ?_
      have hr := Option.some.inj h
      subst hr
      exact ret_objs (.inr rfl) [] (objs' := [.box [.d (.cx .f32 f_.Feeder.Source.A.re f_.Feeder.Source.A.im), .d (.cx .f32 f_.Feeder.Source.B.re f_.Feeder.Source.B.im), .d (.cx .f32 f_.Feeder.Source.C.re f_.Feeder.Source.C.im), .d (.sl false (f_.Feeder.Buses.map eSBus)), .d (.sl false (f_.Ties.map eSTie))]]) (new := []) rfl (by simp) (by simp) rfl (by repeat' first | exact trivial | refine ⟨?_, ?_⟩) rfl rfl (by repeat' first | exact trivial | refine ⟨?_, ?_⟩) (fun h => nomatch h) ⟨rfl, rfl, rfl⟩
  · have h := if_bf h hb11
    refine any_skip 7 rfl rfl rfl ?_
    refine any_skip 8 rfl rfl rfl ?_
    refine any_skip 9 rfl rfl rfl ?_
    refine any_skip 10 rfl rfl rfl ?_
    refine any_skip 11 rfl rfl rfl ?_
    refine any_skip 12 rfl rfl rfl ?_
    refine any_val hτ [] 13 rfl rfl rfl rfl rfl ?_
    refine any_val hτ [] 14 rfl rfl rfl rfl rfl ?_
    refine any_skip 15 rfl rfl rfl ?_
    refine any_skip 16 rfl rfl rfl ?_
    refine any_skip 17 rfl rfl rfl ?_
    refine any_skip 18 rfl rfl rfl ?_
    refine any_skip 19 rfl rfl rfl ?_
    refine any_skip 20 rfl rfl rfl ?_
    refine any_skip 21 rfl rfl rfl ?_
    refine any_skip 22 rfl rfl rfl ?_
    refine any_skip 23 rfl rfl rfl ?_
    refine any_val hτ [] 24 rfl rfl rfl rfl rfl ?_
    refine any_val hτ [] 25 rfl rfl rfl rfl rfl ?_
    refine any_skip 26 rfl rfl rfl ?_
    refine any_skip 27 rfl rfl rfl ?_
    refine any_skip 28 rfl rfl rfl ?_
    refine any_skip 29 rfl rfl rfl ?_
    refine any_skip 30 rfl rfl rfl ?_
    refine any_val hτ [] 31 rfl rfl rfl rfl rfl ?_
    refine any_val hτ [] 32 rfl rfl rfl rfl rfl ?_
    refine any_done mixed (by kernel_rfl) ?_
    refine aw_weak (weak_ofP [0] (l := [(4, .d (.bool false))]) (objs := [.box [.d (.cx .f32 f_.Feeder.Source.A.re f_.Feeder.Source.A.im), .d (.cx .f32 f_.Feeder.Source.B.re f_.Feeder.Source.B.im), .d (.cx .f32 f_.Feeder.Source.C.re f_.Feeder.Source.C.im), .d (.sl false (f_.Feeder.Buses.map eSBus)), .d (.sl false (f_.Ties.map eSTie))]]) rfl (by simp) rfl (by repeat' first | exact trivial | refine ⟨?_, ?_⟩) ⟨rfl, trivial, trivial⟩) ?_
    refine aw_ret ?_
    have hr := Option.some.inj h
    subst hr
    exact ret_objs (.inr rfl) [] (objs' := [.box [.d (.cx .f32 f_.Feeder.Source.A.re f_.Feeder.Source.A.im), .d (.cx .f32 f_.Feeder.Source.B.re f_.Feeder.Source.B.im), .d (.cx .f32 f_.Feeder.Source.C.re f_.Feeder.Source.C.im), .d (.sl false (f_.Feeder.Buses.map eSBus)), .d (.sl false (f_.Ties.map eSTie))]]) (new := []) rfl (by simp) (by simp) rfl (by repeat' first | exact trivial | refine ⟨?_, ?_⟩) rfl rfl (by repeat' first | exact trivial | refine ⟨?_, ?_⟩) (fun h => nomatch h) ⟨rfl, rfl, rfl⟩

def m_spec_l08Is_2_l2 (n : Nat) (g_ : SGrid) : Nat → Int → Option Bool
  | 0, _ => none
  | m19 + 1, v15 =>
    if v15 < (g_.Ties.length : Int) then
      (getI g_.Ties v15).bind fun x24 =>
      (m_spec_l08Tie n g_ x24).bind fun x25 =>
      if x25 = true then
        (m_spec_l08Is_2_l2 n g_ m19) (w64 (v15 + (1 : Int)))
      else
        some false
    else
      some true
def m_spec_l08Is_2_j1 (n : Nat) (g_ : SGrid) : Option Bool :=
  m_spec_l08Is_2_l2 n g_ n (0 : Int)
def m_spec_l08Is_2_j3 (n : Nat) (g_ : SGrid) (v31 : Bool) : Option Bool :=
  if v31 = true then
    some false
  else
    m_spec_l08Is_2_j1 n g_
def m_spec_l08Is_2 (n : Nat) (g_ : SGrid) : Option Bool :=
  (m_spec_l02Is_2 n g_).bind fun x34 =>
  if x34 = true then
    m_spec_l08Is_2_j3 n g_ (decide ((g_.Ties.length : Int) > (6 : Int)))
  else
    m_spec_l08Is_2_j3 n g_ true
theorem spec_l08Is_2_ok (n : Nat) (g_ : SGrid) {r : Bool} (h : m_spec_l08Is_2 n g_ = some r) : ACall prog false 76 [.ptr 0 0] [.box [.d (.cx .f32 g_.Feeder.Source.A.re g_.Feeder.Source.A.im), .d (.cx .f32 g_.Feeder.Source.B.re g_.Feeder.Source.B.im), .d (.cx .f32 g_.Feeder.Source.C.re g_.Feeder.Source.C.im), .d (.sl false (g_.Feeder.Buses.map eSBus)), .d (.sl false (g_.Ties.map eSTie))]] (fun v o new => v = .d (.bool r) ∧ o = [.box [.d (.cx .f32 g_.Feeder.Source.A.re g_.Feeder.Source.A.im), .d (.cx .f32 g_.Feeder.Source.B.re g_.Feeder.Source.B.im), .d (.cx .f32 g_.Feeder.Source.C.re g_.Feeder.Source.C.im), .d (.sl false (g_.Feeder.Buses.map eSBus)), .d (.sl false (g_.Ties.map eSTie))]] ∧ new = []) := by
  refine acall_of_aw hτ func76 rfl (by simp) (by simp) ?_
  unfold m_spec_l08Is_2 at h
  refine aw_seq ?_
  refine aw_region ?_
  refine awl_val hτ rfl rfl rfl ?_
  refine awl_nil ?_
  refine aw_hk1 (ι := Unit) (fun _ => St.of [(0, .ptr 0 0)] [.box [.d (.cx .f32 g_.Feeder.Source.A.re g_.Feeder.Source.A.im), .d (.cx .f32 g_.Feeder.Source.B.re g_.Feeder.Source.B.im), .d (.cx .f32 g_.Feeder.Source.C.re g_.Feeder.Source.C.im), .d (.sl false (g_.Feeder.Buses.map eSBus)), .d (.sl false (g_.Ties.map eSTie))]] f76.ntmps 1) (fun _ => m_spec_l08Is_2_j1 n g_ = some r) ?_ (fun hk27 => ?_)
  · rintro ⟨⟩ h
    replace h : m_spec_l08Is_2_j1 n g_ = some r := h
    unfold m_spec_l08Is_2_j1 at h
    refine aw_seq ?_
    refine aw_seq ?_
    refine aw_region ?_
    refine awl_val hτ rfl rfl rfl ?_
    refine awl_nil ?_
    refine aw_block ?_
    refine aw_loop (ι := Nat × Int) (fun (m19, v15) => St.of [(0, .ptr 0 0), (3, .d (.int .i64 v15))] [.box [.d (.cx .f32 g_.Feeder.Source.A.re g_.Feeder.Source.A.im), .d (.cx .f32 g_.Feeder.Source.B.re g_.Feeder.Source.B.im), .d (.cx .f32 g_.Feeder.Source.C.re g_.Feeder.Source.C.im), .d (.sl false (g_.Feeder.Buses.map eSBus)), .d (.sl false (g_.Ties.map eSTie))]] f76.ntmps 1) (fun (m19, v15) => m_spec_l08Is_2_l2 n g_ m19 v15 = some r) (fun x => x.1) (n, (0 : Int)) h (weak_ofP [0] (l := [(0, .ptr 0 0), (3, .d (.int .i64 (0 : Int)))]) (objs := [.box [.d (.cx .f32 g_.Feeder.Source.A.re g_.Feeder.Source.A.im), .d (.cx .f32 g_.Feeder.Source.B.re g_.Feeder.Source.B.im), .d (.cx .f32 g_.Feeder.Source.C.re g_.Feeder.Source.C.im), .d (.sl false (g_.Feeder.Buses.map eSBus)), .d (.sl false (g_.Ties.map eSTie))]]) rfl (by simp) rfl (by repeat' first | exact trivial | refine ⟨?_, ?_⟩) ⟨rfl, trivial, rfl, trivial, trivial⟩) ?_
    rintro ⟨m19, v15⟩ h
    replace h : m_spec_l08Is_2_l2 n g_ m19 v15 = some r := h
    rcases m19 with _ | m19
    · rw [m_spec_l08Is_2_l2] at h; cases h
    rw [m_spec_l08Is_2_l2] at h
    refine aw_seq ?_
    refine aw_seq ?_
    refine aw_region ?_
    refine awl_val hτ rfl rfl rfl ?_
    refine awl_val hτ rfl rfl rfl ?_
    refine awl_val hτ rfl rfl rfl ?_
    refine awl_val hτ rfl rfl rfl ?_
    refine awl_val hτ rfl rfl rfl ?_
    refine awl_val hτ (v := .d (.int .i64 (g_.Ties.length : Int))) rfl rfl (Eq.trans rfl (or_len (f := eSTie) g_.Ties)) ?_
    refine awl_val hτ rfl rfl rfl ?_
    refine awl_nil ?_
    refine aw_weak (weak_ofP [0] (l := [(0, .ptr 0 0), (3, .d (.int .i64 v15)), (23, .d (.bool (decide (v15 < (g_.Ties.length : Int)))))]) (objs := [.box [.d (.cx .f32 g_.Feeder.Source.A.re g_.Feeder.Source.A.im), .d (.cx .f32 g_.Feeder.Source.B.re g_.Feeder.Source.B.im), .d (.cx .f32 g_.Feeder.Source.C.re g_.Feeder.Source.C.im), .d (.sl false (g_.Feeder.Buses.map eSBus)), .d (.sl false (g_.Ties.map eSTie))]]) rfl (by simp) rfl (by repeat' first | exact trivial | refine ⟨?_, ?_⟩) ⟨rfl, trivial, rfl, trivial, rfl, trivial, trivial⟩) ?_
    refine aw_cond rfl (fun hc21 => ?_) (fun hc21 => ?_)
    · have h := if_t h hc21
      refine aw_skip ?_
      refine aw_seq ?_
      refine aw_block ?_
      refine aw_seq ?_
      refine any_start ?_
      refine any_val hτ [] 0 rfl rfl rfl rfl rfl ?_
      refine any_val hτ [] 1 rfl rfl rfl rfl rfl ?_
      refine any_val hτ [0] 2 rfl rfl rfl rfl rfl ?_
      refine any_val hτ [] 3 rfl rfl rfl rfl rfl ?_
      refine any_val hτ [] 4 rfl rfl rfl rfl rfl ?_
      refine any_val hτ [0] 5 rfl rfl rfl rfl rfl ?_
      refine any_val hτ [0] 6 rfl rfl rfl rfl rfl ?_
      refine any_val hτ [] 7 rfl rfl rfl rfl rfl ?_
      refine bnd_elim h fun x24 hx24 h => ?_
      refine any_elem hτ [] 8 rfl rfl rfl rfl rfl (getI_some hx24).1 (map_getI hx24) rfl ?_
      refine bnd_elim h fun x25 hx25 h => ?_
      refine any_callP hτ false [0] [0] 9 rfl rfl rfl rfl (enterOk func117 rfl rfl) rfl rfl (by simp) ⟨trivial, trivial, trivial⟩ (by repeat' first | exact trivial | refine ⟨?_, ?_⟩) (spec_l08Tie_ok n g_ x24 hx25) ⟨rfl, trivial⟩ ?_
      refine any_val hτ [] 10 rfl rfl rfl rfl rfl ?_
      refine any_done mixed (by kernel_rfl) ?_
      refine aw_weak (weak_ofP [0] (l := [(0, .ptr 0 0), (3, .d (.int .i64 v15)), (36, .d (.bool (!x25)))]) (objs := [.box [.d (.cx .f32 g_.Feeder.Source.A.re g_.Feeder.Source.A.im), .d (.cx .f32 g_.Feeder.Source.B.re g_.Feeder.Source.B.im), .d (.cx .f32 g_.Feeder.Source.C.re g_.Feeder.Source.C.im), .d (.sl false (g_.Feeder.Buses.map eSBus)), .d (.sl false (g_.Ties.map eSTie))]]) rfl (by simp) rfl (by repeat' first | exact trivial | refine ⟨?_, ?_⟩) ⟨rfl, trivial, rfl, trivial, rfl, trivial, trivial⟩) ?_
      refine aw_cond rfl (fun hc26 => ?_) (fun hc26 => ?_)
      · have hc26 := not_t hc26
        have h := if_bf h hc26
        refine aw_seq ?_
        refine aw_region ?_
        refine awl_val hτ rfl rfl rfl ?_
        refine awl_nil ?_
        refine aw_weak (weak_ofP [0] (l := [(2, .d (.bool false))]) (objs := [.box [.d (.cx .f32 g_.Feeder.Source.A.re g_.Feeder.Source.A.im), .d (.cx .f32 g_.Feeder.Source.B.re g_.Feeder.Source.B.im), .d (.cx .f32 g_.Feeder.Source.C.re g_.Feeder.Source.C.im), .d (.sl false (g_.Feeder.Buses.map eSBus)), .d (.sl false (g_.Ties.map eSTie))]]) rfl (by simp) rfl (by repeat' first | exact trivial | refine ⟨?_, ?_⟩) ⟨rfl, trivial, trivial⟩) ?_
        refine aw_ret ?_
        have hr := Option.some.inj h
        subst hr
        exact ret_objs (.inr rfl) [] (objs' := [.box [.d (.cx .f32 g_.Feeder.Source.A.re g_.Feeder.Source.A.im), .d (.cx .f32 g_.Feeder.Source.B.re g_.Feeder.Source.B.im), .d (.cx .f32 g_.Feeder.Source.C.re g_.Feeder.Source.C.im), .d (.sl false (g_.Feeder.Buses.map eSBus)), .d (.sl false (g_.Ties.map eSTie))]]) (new := []) rfl (by simp) (by simp) rfl (by repeat' first | exact trivial | refine ⟨?_, ?_⟩) rfl rfl (by repeat' first | exact trivial | refine ⟨?_, ?_⟩) (fun h => nomatch h) ⟨rfl, rfl, rfl⟩
      · have hc26 := not_f hc26
        have h := if_bt h hc26
        refine aw_skip ?_
        refine aw_region ?_
        refine awl_val hτ rfl rfl rfl ?_
        refine awl_val hτ rfl rfl rfl ?_
        refine awl_val hτ rfl rfl rfl ?_
        refine awl_nil ?_
        exact ⟨(m19, (w64 (v15 + (1 : Int)))), h, Nat.lt_succ_self m19, (weak_ofP [0] (l := [(0, .ptr 0 0), (3, .d (.int .i64 (w64 (v15 + (1 : Int)))))]) (objs := [.box [.d (.cx .f32 g_.Feeder.Source.A.re g_.Feeder.Source.A.im), .d (.cx .f32 g_.Feeder.Source.B.re g_.Feeder.Source.B.im), .d (.cx .f32 g_.Feeder.Source.C.re g_.Feeder.Source.C.im), .d (.sl false (g_.Feeder.Buses.map eSBus)), .d (.sl false (g_.Ties.map eSTie))]]) rfl (by simp) rfl (by repeat' first | exact trivial | refine ⟨?_, ?_⟩) ⟨rfl, trivial, rfl, trivial, trivial⟩)⟩
    · have h := if_f h hc21
      refine aw_exit ?_
      refine aw_seq ?_
      refine aw_region ?_
      refine awl_val hτ rfl rfl rfl ?_
      refine awl_nil ?_
      refine aw_weak (weak_ofP [0] (l := [(2, .d (.bool true))]) (objs := [.box [.d (.cx .f32 g_.Feeder.Source.A.re g_.Feeder.Source.A.im), .d (.cx .f32 g_.Feeder.Source.B.re g_.Feeder.Source.B.im), .d (.cx .f32 g_.Feeder.Source.C.re g_.Feeder.Source.C.im), .d (.sl false (g_.Feeder.Buses.map eSBus)), .d (.sl false (g_.Ties.map eSTie))]]) rfl (by simp) rfl (by repeat' first | exact trivial | refine ⟨?_, ?_⟩) ⟨rfl, trivial, trivial⟩) ?_
      refine aw_ret ?_
      have hr := Option.some.inj h
      subst hr
      exact ret_objs (.inr rfl) [] (objs' := [.box [.d (.cx .f32 g_.Feeder.Source.A.re g_.Feeder.Source.A.im), .d (.cx .f32 g_.Feeder.Source.B.re g_.Feeder.Source.B.im), .d (.cx .f32 g_.Feeder.Source.C.re g_.Feeder.Source.C.im), .d (.sl false (g_.Feeder.Buses.map eSBus)), .d (.sl false (g_.Ties.map eSTie))]]) (new := []) rfl (by simp) (by simp) rfl (by repeat' first | exact trivial | refine ⟨?_, ?_⟩) rfl rfl (by repeat' first | exact trivial | refine ⟨?_, ?_⟩) (fun h => nomatch h) ⟨rfl, rfl, rfl⟩
  · refine aw_seq ?_
    refine aw_hk1 (ι := Bool) (fun v31 => St.of [(0, .ptr 0 0), (16, .d (.bool v31))] [.box [.d (.cx .f32 g_.Feeder.Source.A.re g_.Feeder.Source.A.im), .d (.cx .f32 g_.Feeder.Source.B.re g_.Feeder.Source.B.im), .d (.cx .f32 g_.Feeder.Source.C.re g_.Feeder.Source.C.im), .d (.sl false (g_.Feeder.Buses.map eSBus)), .d (.sl false (g_.Ties.map eSTie))]] f76.ntmps 1) (fun v31 => m_spec_l08Is_2_j3 n g_ v31 = some r) ?_ (fun hk33 => ?_)
    · rintro v31 h
      replace h : m_spec_l08Is_2_j3 n g_ v31 = some r := h
      unfold m_spec_l08Is_2_j3 at h
      refine aw_cond rfl (fun hc32 => ?_) (fun hc32 => ?_)
      · have h := if_bt h hc32
        refine aw_seq ?_
        refine aw_region ?_
        refine awl_val hτ rfl rfl rfl ?_
        refine awl_nil ?_
        refine aw_weak (weak_ofP [0] (l := [(2, .d (.bool false))]) (objs := [.box [.d (.cx .f32 g_.Feeder.Source.A.re g_.Feeder.Source.A.im), .d (.cx .f32 g_.Feeder.Source.B.re g_.Feeder.Source.B.im), .d (.cx .f32 g_.Feeder.Source.C.re g_.Feeder.Source.C.im), .d (.sl false (g_.Feeder.Buses.map eSBus)), .d (.sl false (g_.Ties.map eSTie))]]) rfl (by simp) rfl (by repeat' first | exact trivial | refine ⟨?_, ?_⟩) ⟨rfl, trivial, trivial⟩) ?_
        refine aw_ret ?_
        have hr := Option.some.inj h
        subst hr
        exact ret_objs (.inr rfl) [] (objs' := [.box [.d (.cx .f32 g_.Feeder.Source.A.re g_.Feeder.Source.A.im), .d (.cx .f32 g_.Feeder.Source.B.re g_.Feeder.Source.B.im), .d (.cx .f32 g_.Feeder.Source.C.re g_.Feeder.Source.C.im), .d (.sl false (g_.Feeder.Buses.map eSBus)), .d (.sl false (g_.Ties.map eSTie))]]) (new := []) rfl (by simp) (by simp) rfl (by repeat' first | exact trivial | refine ⟨?_, ?_⟩) rfl rfl (by repeat' first | exact trivial | refine ⟨?_, ?_⟩) (fun h => nomatch h) ⟨rfl, rfl, rfl⟩
      · have h := if_bf h hc32
        refine aw_skip ?_
        refine aw_weak (weak_ofP [0] (l := [(0, .ptr 0 0)]) (objs := [.box [.d (.cx .f32 g_.Feeder.Source.A.re g_.Feeder.Source.A.im), .d (.cx .f32 g_.Feeder.Source.B.re g_.Feeder.Source.B.im), .d (.cx .f32 g_.Feeder.Source.C.re g_.Feeder.Source.C.im), .d (.sl false (g_.Feeder.Buses.map eSBus)), .d (.sl false (g_.Ties.map eSTie))]]) rfl (by simp) rfl (by repeat' first | exact trivial | refine ⟨?_, ?_⟩) ⟨rfl, trivial, trivial⟩) ?_
        exact hk27 () h
    · refine aw_seq ?_
      refine aw_region ?_
      refine awl_val hτ rfl rfl rfl ?_
      refine awl_val hτ rfl rfl rfl ?_
      refine awl_val hτ rfl rfl rfl ?_
      refine bnd_elim h fun x34 hx34 h => ?_
      refine awl_callP hτ false [0] rfl rfl rfl (enterOk func55 rfl rfl) rfl rfl (by simp) ⟨trivial, trivial⟩ (by repeat' first | exact trivial | refine ⟨?_, ?_⟩) (spec_l02Is_2_ok n g_ hx34) ?_
      rintro r0 o0 n0 ⟨rfl, rfl, rfl⟩ -
      refine awl_val hτ rfl rfl rfl ?_
      refine awl_val hτ rfl rfl rfl ?_
      refine awl_split 9 rfl (fun hb35 => ?_) (fun hb35 => ?_)
      · have hb35 := not_t hb35
        have h := if_bf h hb35
        refine awl_skip rfl rfl ?_
        refine awl_skip rfl rfl ?_
        refine awl_skip rfl rfl ?_
        refine awl_skip rfl rfl ?_
        refine awl_skip rfl rfl ?_
        refine awl_weak (weak_ofP [0] (l := [(0, .ptr 0 0), (9, .d (.bool true)), (14, .und)]) (objs := [.box [.d (.cx .f32 g_.Feeder.Source.A.re g_.Feeder.Source.A.im), .d (.cx .f32 g_.Feeder.Source.B.re g_.Feeder.Source.B.im), .d (.cx .f32 g_.Feeder.Source.C.re g_.Feeder.Source.C.im), .d (.sl false (g_.Feeder.Buses.map eSBus)), .d (.sl false (g_.Ties.map eSTie))]]) rfl (by simp) rfl (by repeat' first | exact trivial | refine ⟨?_, ?_⟩) ⟨rfl, trivial, rfl, trivial, rfl, trivial, trivial⟩) ?_
        refine awl_skip rfl rfl ?_
        refine awl_val hτ rfl rfl rfl ?_
        refine awl_nil ?_
        refine aw_weak (weak_ofP [0] (l := [(0, .ptr 0 0), (16, .d (.bool true))]) (objs := [.box [.d (.cx .f32 g_.Feeder.Source.A.re g_.Feeder.Source.A.im), .d (.cx .f32 g_.Feeder.Source.B.re g_.Feeder.Source.B.im), .d (.cx .f32 g_.Feeder.Source.C.re g_.Feeder.Source.C.im), .d (.sl false (g_.Feeder.Buses.map eSBus)), .d (.sl false (g_.Ties.map eSTie))]]) rfl (by simp) rfl (by repeat' first | exact trivial | refine ⟨?_, ?_⟩) ⟨rfl, trivial, rfl, trivial, trivial⟩) ?_
        exact hk33 true h
      · have hb35 := not_f hb35
        have h := if_bt h hb35
        refine awl_val hτ rfl rfl rfl ?_
        refine awl_val hτ rfl rfl rfl ?_
        refine awl_val hτ rfl rfl rfl ?_
        refine awl_val hτ rfl rfl rfl ?_
        refine awl_val hτ (v := .d (.int .i64 (g_.Ties.length : Int))) rfl rfl (Eq.trans rfl (or_len (f := eSTie) g_.Ties)) ?_
        refine awl_weak (weak_ofP [0] (l := [(0, .ptr 0 0), (9, .d (.bool false)), (14, .d (.int .i64 (g_.Ties.length : Int)))]) (objs := [.box [.d (.cx .f32 g_.Feeder.Source.A.re g_.Feeder.Source.A.im), .d (.cx .f32 g_.Feeder.Source.B.re g_.Feeder.Source.B.im), .d (.cx .f32 g_.Feeder.Source.C.re g_.Feeder.Source.C.im), .d (.sl false (g_.Feeder.Buses.map eSBus)), .d (.sl false (g_.Ties.map eSTie))]]) rfl (by simp) rfl (by repeat' first | exact trivial | refine ⟨?_, ?_⟩) ⟨rfl, trivial, rfl, trivial, rfl, trivial, trivial⟩) ?_
        refine awl_val hτ rfl rfl rfl ?_
        refine awl_val hτ rfl rfl rfl ?_
        refine awl_nil ?_
        refine aw_weak (weak_ofP [0] (l := [(0, .ptr 0 0), (16, .d (.bool (decide ((g_.Ties.length : Int) > (6 : Int)))))]) (objs := [.box [.d (.cx .f32 g_.Feeder.Source.A.re g_.Feeder.Source.A.im), .d (.cx .f32 g_.Feeder.Source.B.re g_.Feeder.Source.B.im), .d (.cx .f32 g_.Feeder.Source.C.re g_.Feeder.Source.C.im), .d (.sl false (g_.Feeder.Buses.map eSBus)), .d (.sl false (g_.Ties.map eSTie))]]) rfl (by simp) rfl (by repeat' first | exact trivial | refine ⟨?_, ?_⟩) ⟨rfl, trivial, rfl, trivial, trivial⟩) ?_
        exact hk33 (decide ((g_.Ties.length : Int) > (6 : Int))) h

def m_spec_l01Bits (n : Nat) (x_ : Nat) : Option Int :=
  if (fcmp .neq .f32 x_ x_) = true then
    some (2143289344 : Int)
  else
    grd (isnan .f32 x_ = false) <|
    some (w64 ((x_ : Int)))
theorem spec_l01Bits_ok_fr0 (fr : Bool) (n : Nat) (x_ : Nat) {r : Int} (h : m_spec_l01Bits n x_ = some r) : ACall prog fr 154 [.d (.fl .f32 x_)] [] (fun v o new => v = .d (.int .i64 r) ∧ o = [] ∧ new = []) := by
  refine acall_of_aw hτ func154 rfl (by simp) (by simp) ?_
  unfold m_spec_l01Bits at h
  refine aw_seq ?_
  refine aw_region ?_
  refine awl_val hτ rfl rfl rfl ?_
  refine awl_nil ?_
  refine aw_seq ?_
  refine aw_seq ?_
  refine aw_region ?_
  refine awl_val hτ rfl rfl rfl ?_
  refine awl_val hτ rfl rfl rfl ?_
  refine awl_val hτ rfl rfl rfl ?_
  refine awl_nil ?_
  refine aw_cond rfl (fun hc2 => ?_) (fun hc2 => ?_)
  · have h := if_bt h hc2
    refine aw_seq ?_
    refine aw_region ?_
    refine awl_val hτ rfl rfl rfl ?_
    refine awl_nil ?_
    refine aw_weak (weak_ofP [] (l := [(2, .d (.int .i64 (2143289344 : Int)))]) (objs := []) rfl (by simp) rfl (by repeat' first | exact trivial | refine ⟨?_, ?_⟩) ⟨rfl, trivial, trivial⟩) ?_
    refine aw_ret ?_
    have hr := Option.some.inj h
    subst hr
    exact ret_objs (.inr rfl) [] (objs' := []) (new := []) rfl (by simp) (by simp) rfl (by repeat' first | exact trivial | refine ⟨?_, ?_⟩) rfl rfl (by repeat' first | exact trivial | refine ⟨?_, ?_⟩) (fun _ => ⟨by simp [V.flat, V.flatA, V.flatC, D.flat], flat_nil⟩) ⟨rfl, rfl, rfl⟩
  · have h := if_bf h hc2
    refine aw_skip ?_
    refine aw_seq ?_
    refine aw_region ?_
    refine awl_val hτ rfl rfl rfl ?_
    refine grd_elim h fun hg3 h => ?_
    refine awl_ext hτ rfl rfl rfl (ext173 hg3) ?_
    refine awl_val hτ rfl rfl rfl ?_
    refine awl_val hτ rfl rfl rfl ?_
    refine awl_nil ?_
    refine aw_weak (weak_ofP [] (l := [(2, .d (.int .i64 (w64 ((x_ : Int)))))]) (objs := []) rfl (by simp) rfl (by repeat' first | exact trivial | refine ⟨?_, ?_⟩) ⟨rfl, trivial, trivial⟩) ?_
    refine aw_ret ?_
    have hr := Option.some.inj h
    subst hr
    exact ret_objs (.inr rfl) [] (objs' := []) (new := []) rfl (by simp) (by simp) rfl (by repeat' first | exact trivial | refine ⟨?_, ?_⟩) rfl rfl (by repeat' first | exact trivial | refine ⟨?_, ?_⟩) (fun _ => ⟨by simp [V.flat, V.flatA, V.flatC, D.flat], flat_nil⟩) ⟨rfl, rfl, rfl⟩
theorem spec_l01Bits_ok (n : Nat) (x_ : Nat) {r : Int} (h : m_spec_l01Bits n x_ = some r) : ACall prog false 154 [.d (.fl .f32 x_)] [] (fun v o new => v = .d (.int .i64 r) ∧ o = [] ∧ new = []) := spec_l01Bits_ok_fr0 false n x_ h
theorem spec_l01Bits_ok_fr (n : Nat) (x_ : Nat) {r : Int} (h : m_spec_l01Bits n x_ = some r) : ACall prog true 154 [.d (.fl .f32 x_)] [] (fun v o new => v = .d (.int .i64 r) ∧ o = [] ∧ new = []) := spec_l01Bits_ok_fr0 true n x_ h

def m_spec_l10Word_j1 (n : Nat) (v17 : List Int) : Option Str :=
  some (chars v17)
def m_spec_l10Word_l2 (n : Nat) (n_ : Int) (size_ : Int) : Nat → List Int → Int → Option Str
  | 0, _, _ => none
  | m27 + 1, v21, v22 =>
    if v22 < size_ then
      grd (0 ≤ (IntKind.wrap .u64 ((w64 ((8 : Int) * v22))))) <|
      grd (room (v21.length + 1) 1) <|
      (m_spec_l10Word_l2 n n_ size_ m27) (v21 ++ [(IntKind.wrap .u8 ((ibits .and .i64 (n_.fdiv (2 ^ min (IntKind.wrap .u64 ((w64 ((8 : Int) * v22)))).toNat (IntKind.bits .i64))) (255 : Int))))]) (w64 (v22 + (1 : Int)))
    else
      m_spec_l10Word_j1 n v21
def m_spec_l10Word (n : Nat) (n_ : Int) (size_ : Int) : Option Str :=
  m_spec_l10Word_l2 n n_ size_ n ([] : List Int) (0 : Int)
theorem spec_l10Word_ok_fr0 (fr : Bool) (n : Nat) (n_ : Int) (size_ : Int) {r : Str} (h : m_spec_l10Word n n_ size_ = some r) : ACall prog fr 119 [.d (.int .i64 n_), .d (.int .i64 size_)] [] (fun v o new => v = .d (.str (bstr r)) ∧ o = [] ∧ new = []) := by
  refine acall_of_aw hτ func119 rfl (by simp) (by simp) ?_
  unfold m_spec_l10Word at h
  refine aw_seq ?_
  refine aw_region ?_
  refine awl_val hτ rfl rfl rfl ?_
  refine awl_nil ?_
  refine aw_seq ?_
  refine aw_region ?_
  refine awl_valH hτ rfl rfl rfl ?_
  refine awl_val hτ rfl rfl rfl ?_
  refine awl_nil ?_
  refine aw_hk1 (ι := List Int) (fun v17 => St.of [(5, .row 0 v17.length 0 v17.length)] [.row 1 (v17.map eIntu8)] f119.ntmps 0) (fun v17 => m_spec_l10Word_j1 n v17 = some r) ?_ (fun hk18 => ?_)
  · rintro v17 h
    replace h : m_spec_l10Word_j1 n v17 = some r := h
    unfold m_spec_l10Word_j1 at h
    refine aw_seq ?_
    refine aw_region ?_
    refine awl_val hτ rfl rfl rfl ?_
    refine awl_x rfl rfl (x_b2s hτ (f := eIntu8) (l := v17) rfl rfl rfl rfl rfl rfl rfl (fun _ => rfl) (slice_row v17 rfl rfl) ⟨len_map _, by omega⟩) ?_
    refine awl_val hτ rfl rfl rfl ?_
    refine awl_nil ?_
    refine aw_weak (weak_ofP [] (l := [(4, .d (.str (bstr (chars v17))))]) (objs := []) rfl (by simp) rfl (by repeat' first | exact trivial | refine ⟨?_, ?_⟩) ⟨rfl, trivial, trivial⟩) ?_
    refine aw_ret ?_
    have hr := Option.some.inj h
    subst hr
    exact ret_objs (.inr rfl) [] (objs' := []) (new := []) rfl (by simp) (by simp) rfl (by repeat' first | exact trivial | refine ⟨?_, ?_⟩) rfl rfl (by repeat' first | exact trivial | refine ⟨?_, ?_⟩) (fun _ => ⟨by simp [V.flat, V.flatA, V.flatC, D.flat], flat_nil⟩) ⟨rfl, rfl, rfl⟩
  · refine aw_seq ?_
    refine aw_seq ?_
    refine aw_region ?_
    refine awl_val hτ rfl rfl rfl ?_
    refine awl_nil ?_
    refine aw_block ?_
    refine aw_loop (ι := Nat × List Int × Int) (fun (m27, v21, v22) => St.of [(0, .d (.int .i64 n_)), (1, .d (.int .i64 size_)), (5, .row 0 v21.length 0 v21.length), (6, .d (.int .i64 v22))] [.row 1 (v21.map eIntu8)] f119.ntmps 0) (fun (m27, v21, v22) => m_spec_l10Word_l2 n n_ size_ m27 v21 v22 = some r) (fun x => x.1) (n, ([] : List Int), (0 : Int)) h (weak_ofP [0] (l := [(0, .d (.int .i64 n_)), (1, .d (.int .i64 size_)), (5, .row 0 (([] : List Int).length) 0 (([] : List Int).length)), (6, .d (.int .i64 (0 : Int)))]) (objs := [.row 1 (([] : List Int).map eIntu8)]) rfl (by simp) rfl (by repeat' first | exact trivial | refine ⟨?_, ?_⟩) ⟨rfl, trivial, rfl, trivial, rfl, trivial, rfl, trivial, trivial⟩) ?_
    rintro ⟨m27, v21, v22⟩ h
    replace h : m_spec_l10Word_l2 n n_ size_ m27 v21 v22 = some r := h
    rcases m27 with _ | m27
    · rw [m_spec_l10Word_l2] at h; cases h
    rw [m_spec_l10Word_l2] at h
    refine aw_seq ?_
    refine aw_seq ?_
    refine aw_region ?_
    refine awl_val hτ rfl rfl rfl ?_
    refine awl_val hτ rfl rfl rfl ?_
    refine awl_val hτ rfl rfl rfl ?_
    refine awl_nil ?_
    refine aw_cond rfl (fun hc29 => ?_) (fun hc29 => ?_)
    · have h := if_t h hc29
      refine aw_skip ?_
      refine aw_seq ?_
      refine aw_block ?_
      refine aw_region ?_
      refine awl_val hτ rfl rfl rfl ?_
      refine awl_val hτ rfl rfl rfl ?_
      refine awl_val hτ rfl rfl rfl ?_
      refine awl_val hτ rfl rfl rfl ?_
      refine awl_val hτ rfl rfl rfl ?_
      refine grd_elim h fun hg30 h => ?_
      refine awl_need hτ rfl rfl rfl hg30 ?_
      refine awl_val hτ rfl rfl rfl ?_
      refine awl_val hτ rfl rfl rfl ?_
      refine awl_valH hτ rfl rfl rfl ?_
      refine awl_weak (weak_ofP [0, 1] (l := [(0, .d (.int .i64 n_)), (1, .d (.int .i64 size_)), (5, .row 0 v21.length 0 v21.length), (6, .d (.int .i64 v22)), (13, .row 0 v21.length 0 v21.length), (21, .row 1 ([(IntKind.wrap .u8 ((ibits .and .i64 (n_.fdiv (2 ^ min (IntKind.wrap .u64 ((w64 ((8 : Int) * v22)))).toNat (IntKind.bits .i64))) (255 : Int))))].length) 0 ([(IntKind.wrap .u8 ((ibits .and .i64 (n_.fdiv (2 ^ min (IntKind.wrap .u64 ((w64 ((8 : Int) * v22)))).toNat (IntKind.bits .i64))) (255 : Int))))].length))]) (objs := [.row 1 (v21.map eIntu8), .row 1 ([(IntKind.wrap .u8 ((ibits .and .i64 (n_.fdiv (2 ^ min (IntKind.wrap .u64 ((w64 ((8 : Int) * v22)))).toNat (IntKind.bits .i64))) (255 : Int))))].map eIntu8)]) rfl (by simp) rfl (by repeat' first | exact trivial | refine ⟨?_, ?_⟩) ⟨rfl, trivial, rfl, trivial, rfl, trivial, rfl, trivial, rfl, trivial, rfl, trivial, trivial⟩) ?_
      refine grd_elim h fun hg31 h => ?_
      refine awl_needH hτ rfl rfl (Eq.trans rfl (or_append (f := eIntu8) v21 [(IntKind.wrap .u8 ((ibits .and .i64 (n_.fdiv (2 ^ min (IntKind.wrap .u64 ((w64 ((8 : Int) * v22)))).toNat (IntKind.bits .i64))) (255 : Int))))] rfl)) ⟨⟨rfl, Nat.le_of_ble_eq_true rfl⟩, len_map _, rfl, rfl, hg31, by decide, (all1 rfl)⟩ ?_
      refine awl_val hτ rfl rfl rfl ?_
      refine awl_nil ?_
      refine aw_region ?_
      refine awl_val hτ rfl rfl rfl ?_
      refine awl_val hτ rfl rfl rfl ?_
      refine awl_val hτ rfl rfl rfl ?_
      refine awl_nil ?_
      exact ⟨(m27, (v21 ++ [(IntKind.wrap .u8 ((ibits .and .i64 (n_.fdiv (2 ^ min (IntKind.wrap .u64 ((w64 ((8 : Int) * v22)))).toNat (IntKind.bits .i64))) (255 : Int))))]), (w64 (v22 + (1 : Int)))), h, Nat.lt_succ_self m27, (weak_ofP [0] (l := [(0, .d (.int .i64 n_)), (1, .d (.int .i64 size_)), (5, .row 0 ((v21 ++ [(IntKind.wrap .u8 ((ibits .and .i64 (n_.fdiv (2 ^ min (IntKind.wrap .u64 ((w64 ((8 : Int) * v22)))).toNat (IntKind.bits .i64))) (255 : Int))))]).length) 0 ((v21 ++ [(IntKind.wrap .u8 ((ibits .and .i64 (n_.fdiv (2 ^ min (IntKind.wrap .u64 ((w64 ((8 : Int) * v22)))).toNat (IntKind.bits .i64))) (255 : Int))))]).length)), (6, .d (.int .i64 (w64 (v22 + (1 : Int)))))]) (objs := [.row 1 ((v21 ++ [(IntKind.wrap .u8 ((ibits .and .i64 (n_.fdiv (2 ^ min (IntKind.wrap .u64 ((w64 ((8 : Int) * v22)))).toNat (IntKind.bits .i64))) (255 : Int))))]).map eIntu8)]) rfl (by simp) rfl (by repeat' first | exact trivial | refine ⟨?_, ?_⟩) ⟨rfl, trivial, rfl, trivial, rfl, trivial, rfl, trivial, trivial⟩)⟩
    · have h := if_f h hc29
      refine aw_exit ?_
      refine aw_weak (weak_ofP [0] (l := [(5, .row 0 v21.length 0 v21.length)]) (objs := [.row 1 (v21.map eIntu8)]) rfl (by simp) rfl (by repeat' first | exact trivial | refine ⟨?_, ?_⟩) ⟨rfl, trivial, trivial⟩) ?_
      exact hk18 v21 h
theorem spec_l10Word_ok (n : Nat) (n_ : Int) (size_ : Int) {r : Str} (h : m_spec_l10Word n n_ size_ = some r) : ACall prog false 119 [.d (.int .i64 n_), .d (.int .i64 size_)] [] (fun v o new => v = .d (.str (bstr r)) ∧ o = [] ∧ new = []) := spec_l10Word_ok_fr0 false n n_ size_ h
theorem spec_l10Word_ok_fr (n : Nat) (n_ : Int) (size_ : Int) {r : Str} (h : m_spec_l10Word n n_ size_ = some r) : ACall prog true 119 [.d (.int .i64 n_), .d (.int .i64 size_)] [] (fun v o new => v = .d (.str (bstr r)) ∧ o = [] ∧ new = []) := spec_l10Word_ok_fr0 true n n_ size_ h

def m_spec_l10Complex (n : Nat) (x_ : Cx) : Option Str :=
  (m_spec_l01Bits n x_.re).bind fun x6 =>
  (m_spec_l10Word n x6 (4 : Int)).bind fun x7 =>
  (m_spec_l01Bits n x_.im).bind fun x8 =>
  (m_spec_l10Word n x8 (4 : Int)).bind fun x9 =>
  grd (x7.length + x9.length ≤ 9223372036854775807) <|
  some (x7 ++ x9)
theorem spec_l10Complex_ok_fr0 (fr : Bool) (n : Nat) (x_ : Cx) {r : Str} (h : m_spec_l10Complex n x_ = some r) : ACall prog fr 120 [.d (.cx .f32 x_.re x_.im)] [] (fun v o new => v = .d (.str (bstr r)) ∧ o = [] ∧ new = []) := by
  refine acall_of_aw hτ func120 rfl (by simp) (by simp) ?_
  unfold m_spec_l10Complex at h
  refine aw_seq ?_
  refine aw_region ?_
  refine awl_val hτ rfl rfl rfl ?_
  refine awl_nil ?_
  refine aw_seq ?_
  refine aw_region ?_
  refine awl_val hτ rfl rfl rfl ?_
  refine awl_val hτ rfl rfl rfl ?_
  refine bnd_elim h fun x6 hx6 h => ?_
  refine awl_callP hτ false [] rfl rfl rfl (enterOk func154 rfl rfl) rfl rfl (by simp) ⟨trivial, trivial⟩ (by repeat' first | exact trivial | refine ⟨?_, ?_⟩) (spec_l01Bits_ok n x_.re hx6) ?_
  rintro r0 o0 n0 ⟨rfl, rfl, rfl⟩ -
  refine bnd_elim h fun x7 hx7 h => ?_
  refine awl_callP hτ false [] rfl rfl rfl (enterOk func119 rfl rfl) rfl rfl (by simp) ⟨trivial, trivial, trivial⟩ (by repeat' first | exact trivial | refine ⟨?_, ?_⟩) (spec_l10Word_ok n x6 (4 : Int) hx7) ?_
  rintro r0 o0 n0 ⟨rfl, rfl, rfl⟩ -
  refine awl_val hτ rfl rfl rfl ?_
  refine awl_val hτ rfl rfl rfl ?_
  refine bnd_elim h fun x8 hx8 h => ?_
  refine awl_callP hτ false [] rfl rfl rfl (enterOk func154 rfl rfl) rfl rfl (by simp) ⟨trivial, trivial⟩ (by repeat' first | exact trivial | refine ⟨?_, ?_⟩) (spec_l01Bits_ok n x_.im hx8) ?_
  rintro r0 o0 n0 ⟨rfl, rfl, rfl⟩ -
  refine bnd_elim h fun x9 hx9 h => ?_
  refine awl_callP hτ false [] rfl rfl rfl (enterOk func119 rfl rfl) rfl rfl (by simp) ⟨trivial, trivial, trivial⟩ (by repeat' first | exact trivial | refine ⟨?_, ?_⟩) (spec_l10Word_ok n x8 (4 : Int) hx9) ?_
  rintro r0 o0 n0 ⟨rfl, rfl, rfl⟩ -
  refine grd_elim h fun hg10 h => ?_
  refine awl_need hτ (v := .d (.str (bstr (x7 ++ x9)))) rfl rfl (Eq.trans rfl (or_cat _ _)) hg10 ?_
  refine awl_val hτ rfl rfl rfl ?_
  refine awl_nil ?_
  refine aw_weak (weak_ofP [] (l := [(2, .d (.str (bstr (x7 ++ x9))))]) (objs := []) rfl (by simp) rfl (by repeat' first | exact trivial | refine ⟨?_, ?_⟩) ⟨rfl, trivial, trivial⟩) ?_
  refine aw_ret ?_
  have hr := Option.some.inj h
  subst hr
  exact ret_objs (.inr rfl) [] (objs' := []) (new := []) rfl (by simp) (by simp) rfl (by repeat' first | exact trivial | refine ⟨?_, ?_⟩) rfl rfl (by repeat' first | exact trivial | refine ⟨?_, ?_⟩) (fun _ => ⟨by simp [V.flat, V.flatA, V.flatC, D.flat], flat_nil⟩) ⟨rfl, rfl, rfl⟩
theorem spec_l10Complex_ok (n : Nat) (x_ : Cx) {r : Str} (h : m_spec_l10Complex n x_ = some r) : ACall prog false 120 [.d (.cx .f32 x_.re x_.im)] [] (fun v o new => v = .d (.str (bstr r)) ∧ o = [] ∧ new = []) := spec_l10Complex_ok_fr0 false n x_ h
theorem spec_l10Complex_ok_fr (n : Nat) (x_ : Cx) {r : Str} (h : m_spec_l10Complex n x_ = some r) : ACall prog true 120 [.d (.cx .f32 x_.re x_.im)] [] (fun v o new => v = .d (.str (bstr r)) ∧ o = [] ∧ new = []) := spec_l10Complex_ok_fr0 true n x_ h

def m_spec_l10Phases (n : Nat) (p_ : SPhases) : Option Str :=
  (m_spec_l10Complex n p_.A).bind fun x6 =>
  (m_spec_l10Complex n p_.B).bind fun x7 =>
  grd (x6.length + x7.length ≤ 9223372036854775807) <|
  (m_spec_l10Complex n p_.C).bind fun x9 =>
  grd ((x6 ++ x7).length + x9.length ≤ 9223372036854775807) <|
  some ((x6 ++ x7) ++ x9)
theorem spec_l10Phases_ok_fr0 (fr : Bool) (n : Nat) (p_ : SPhases) {r : Str} (h : m_spec_l10Phases n p_ = some r) : ACall prog fr 118 [.agg [.d (.cx .f32 p_.A.re p_.A.im), .d (.cx .f32 p_.B.re p_.B.im), .d (.cx .f32 p_.C.re p_.C.im)]] [] (fun v o new => v = .d (.str (bstr r)) ∧ o = [] ∧ new = []) := by
  refine acall_of_aw hτ func118 rfl (by simp) (by simp) ?_
  unfold m_spec_l10Phases at h
  refine aw_seq ?_
  refine aw_region ?_
  refine awl_valH hτ rfl rfl rfl ?_
  refine awl_val hτ rfl rfl rfl ?_
  refine awl_nil ?_
  refine aw_seq ?_
  refine any_start ?_
  refine any_val hτ [0] 0 rfl rfl rfl rfl rfl ?_
  refine any_val hτ [0] 1 rfl rfl rfl rfl rfl ?_
  refine any_val hτ [0] 3 rfl rfl rfl rfl rfl ?_
  refine any_val hτ [0] 4 rfl rfl rfl rfl rfl ?_
  refine any_val hτ [0] 7 rfl rfl rfl rfl rfl ?_
  refine any_val hτ [0] 8 rfl rfl rfl rfl rfl ?_
  refine bnd_elim h fun x6 hx6 h => ?_
  refine any_callP hτ false [] [0] 2 rfl rfl rfl rfl (enterOk func120 rfl rfl) rfl rfl (by simp) ⟨trivial, trivial⟩ (by repeat' first | exact trivial | refine ⟨?_, ?_⟩) (spec_l10Complex_ok n p_.A hx6) ⟨rfl, trivial⟩ ?_
  refine bnd_elim h fun x7 hx7 h => ?_
  refine any_callP hτ false [] [0] 5 rfl rfl rfl rfl (enterOk func120 rfl rfl) rfl rfl (by simp) ⟨trivial, trivial⟩ (by repeat' first | exact trivial | refine ⟨?_, ?_⟩) (spec_l10Complex_ok n p_.B hx7) ⟨rfl, trivial⟩ ?_
  refine grd_elim h fun hg8 h => ?_
  refine any_need hτ (v := .d (.str (bstr (x6 ++ x7)))) [] 6 rfl rfl rfl rfl (Eq.trans rfl (or_cat _ _)) hg8 ?_
  refine bnd_elim h fun x9 hx9 h => ?_
  refine any_callP hτ false [] [0] 9 rfl rfl rfl rfl (enterOk func120 rfl rfl) rfl rfl (by simp) ⟨trivial, trivial⟩ (by repeat' first | exact trivial | refine ⟨?_, ?_⟩) (spec_l10Complex_ok n p_.C hx9) ⟨rfl, trivial⟩ ?_
  refine grd_elim h fun hg10 h => ?_
  refine any_need hτ (v := .d (.str (bstr ((x6 ++ x7) ++ x9)))) [] 10 rfl rfl rfl rfl (Eq.trans rfl (or_cat _ _)) hg10 ?_
  refine any_val hτ [] 11 rfl rfl rfl rfl rfl ?_
  refine any_done mixed (by kernel_rfl) ?_
  refine aw_weak (weak_ofP [] (l := [(2, .d (.str (bstr ((x6 ++ x7) ++ x9))))]) (objs := []) rfl (by simp) rfl (by repeat' first | exact trivial | refine ⟨?_, ?_⟩) ⟨rfl, trivial, trivial⟩) ?_
  refine aw_ret ?_
  have hr := Option.some.inj h
  subst hr
  exact ret_objs (.inr rfl) [] (objs' := []) (new := []) rfl (by simp) (by simp) rfl (by repeat' first | exact trivial | refine ⟨?_, ?_⟩) rfl rfl (by repeat' first | exact trivial | refine ⟨?_, ?_⟩) (fun _ => ⟨by simp [V.flat, V.flatA, V.flatC, D.flat], flat_nil⟩) ⟨rfl, rfl, rfl⟩
theorem spec_l10Phases_ok (n : Nat) (p_ : SPhases) {r : Str} (h : m_spec_l10Phases n p_ = some r) : ACall prog false 118 [.agg [.d (.cx .f32 p_.A.re p_.A.im), .d (.cx .f32 p_.B.re p_.B.im), .d (.cx .f32 p_.C.re p_.C.im)]] [] (fun v o new => v = .d (.str (bstr r)) ∧ o = [] ∧ new = []) := spec_l10Phases_ok_fr0 false n p_ h
theorem spec_l10Phases_ok_fr (n : Nat) (p_ : SPhases) {r : Str} (h : m_spec_l10Phases n p_ = some r) : ACall prog true 118 [.agg [.d (.cx .f32 p_.A.re p_.A.im), .d (.cx .f32 p_.B.re p_.B.im), .d (.cx .f32 p_.C.re p_.C.im)]] [] (fun v o new => v = .d (.str (bstr r)) ∧ o = [] ∧ new = []) := spec_l10Phases_ok_fr0 true n p_ h

def m_spec_l10Head_l2 (n : Nat) (g_ : SGrid) : Nat → Str → Int → Option Str
  | 0, _, _ => none
  | m126 + 1, v111, v112 =>
    if v112 < (g_.Ties.length : Int) then
      (getI g_.Ties v112).bind fun x129 =>
      (m_spec_l10Word n x129.A (1 : Int)).bind fun x130 =>
      (m_spec_l10Word n x129.B (1 : Int)).bind fun x131 =>
      grd (x130.length + x131.length ≤ 9223372036854775807) <|
      (m_spec_l10Complex n x129.Own).bind fun x133 =>
      grd ((x130 ++ x131).length + x133.length ≤ 9223372036854775807) <|
      (m_spec_l10Complex n x129.Shared).bind fun x135 =>
      grd (((x130 ++ x131) ++ x133).length + x135.length ≤ 9223372036854775807) <|
      (m_spec_l10Word n x129.Most (4 : Int)).bind fun x137 =>
      grd ((((x130 ++ x131) ++ x133) ++ x135).length + x137.length ≤ 9223372036854775807) <|
      grd (v111.length + ((((x130 ++ x131) ++ x133) ++ x135) ++ x137).length ≤ 9223372036854775807) <|
      (m_spec_l10Head_l2 n g_ m126) (v111 ++ ((((x130 ++ x131) ++ x133) ++ x135) ++ x137)) (w64 (v112 + (1 : Int)))
    else
      some v111
def m_spec_l10Head_j1 (n : Nat) (g_ : SGrid) (v97 : Str) : Option Str :=
  (m_spec_l10Word n (g_.Ties.length : Int) (1 : Int)).bind fun x98 =>
  grd (v97.length + x98.length ≤ 9223372036854775807) <|
  m_spec_l10Head_l2 n g_ n (v97 ++ x98) (0 : Int)
def m_spec_l10Head_l3 (n : Nat) (g_ : SGrid) : Nat → Str → Int → Option Str
  | 0, _, _ => none
  | m171 + 1, v154, v155 =>
    if v155 < (g_.Feeder.Buses.length : Int) then
      (getI g_.Feeder.Buses v155).bind fun x174 =>
      (m_spec_l10Word n (w64 (x174.Parent + (1 : Int))) (1 : Int)).bind fun x175 =>
      (m_spec_l10Complex n x174.Own).bind fun x176 =>
      grd (x175.length + x176.length ≤ 9223372036854775807) <|
      (m_spec_l10Complex n x174.Shared).bind fun x178 =>
      grd ((x175 ++ x176).length + x178.length ≤ 9223372036854775807) <|
      (m_spec_l10Word n x174.Kind (1 : Int)).bind fun x180 =>
      grd (((x175 ++ x176) ++ x178).length + x180.length ≤ 9223372036854775807) <|
      grd (v154.length + (((x175 ++ x176) ++ x178) ++ x180).length ≤ 9223372036854775807) <|
      (m_spec_l10Phases n x174.Load).bind fun x183 =>
      (m_spec_l10Word n x174.Customers (4 : Int)).bind fun x184 =>
      grd (x183.length + x184.length ≤ 9223372036854775807) <|
      grd ((v154 ++ (((x175 ++ x176) ++ x178) ++ x180)).length + (x183 ++ x184).length ≤ 9223372036854775807) <|
      (m_spec_l10Head_l3 n g_ m171) ((v154 ++ (((x175 ++ x176) ++ x178) ++ x180)) ++ (x183 ++ x184)) (w64 (v155 + (1 : Int)))
    else
      m_spec_l10Head_j1 n g_ v154
def m_spec_l10Head (n : Nat) (g_ : SGrid) : Option Str :=
  (m_spec_l10Phases n g_.Feeder.Source).bind fun x63 =>
  grd (([70, 68, 82, 49] : Str).length + x63.length ≤ 9223372036854775807) <|
  (m_spec_l10Word n (g_.Feeder.Buses.length : Int) (1 : Int)).bind fun x65 =>
  grd ((([70, 68, 82, 49] : Str) ++ x63).length + x65.length ≤ 9223372036854775807) <|
  m_spec_l10Head_l3 n g_ n ((([70, 68, 82, 49] : Str) ++ x63) ++ x65) (0 : Int)
theorem spec_l10Head_ok (n : Nat) (g_ : SGrid) {r : Str} (h : m_spec_l10Head n g_ = some r) : ACall prog false 77 [.ptr 0 0] [.box [.d (.cx .f32 g_.Feeder.Source.A.re g_.Feeder.Source.A.im), .d (.cx .f32 g_.Feeder.Source.B.re g_.Feeder.Source.B.im), .d (.cx .f32 g_.Feeder.Source.C.re g_.Feeder.Source.C.im), .d (.sl false (g_.Feeder.Buses.map eSBus)), .d (.sl false (g_.Ties.map eSTie))]] (fun v o new => v = .d (.str (bstr r)) ∧ o = [.box [.d (.cx .f32 g_.Feeder.Source.A.re g_.Feeder.Source.A.im), .d (.cx .f32 g_.Feeder.Source.B.re g_.Feeder.Source.B.im), .d (.cx .f32 g_.Feeder.Source.C.re g_.Feeder.Source.C.im), .d (.sl false (g_.Feeder.Buses.map eSBus)), .d (.sl false (g_.Ties.map eSTie))]] ∧ new = []) := by
  refine acall_of_aw hτ func77 rfl (by simp) (by simp) ?_
  unfold m_spec_l10Head at h
  refine aw_seq ?_
  refine aw_region ?_
  refine awl_val hτ rfl rfl rfl ?_
  refine awl_nil ?_
  refine aw_seq ?_
  refine aw_region ?_
  refine awl_val hτ rfl rfl rfl ?_
  refine awl_val hτ rfl rfl rfl ?_
  refine awl_val hτ rfl rfl rfl ?_
  refine awl_val hτ rfl rfl rfl ?_
  refine awl_nil ?_
  refine aw_seq ?_
  refine any_start ?_
  refine any_val hτ [] 0 rfl rfl rfl rfl rfl ?_
  refine any_val hτ [] 1 rfl rfl rfl rfl rfl ?_
  refine any_val hτ [0] 2 rfl rfl rfl rfl rfl ?_
  refine any_val hτ [0] 3 rfl rfl rfl rfl rfl ?_
  refine any_val hτ [] 6 rfl rfl rfl rfl rfl ?_
  refine any_val hτ [] 7 rfl rfl rfl rfl rfl ?_
  refine any_val hτ [0] 8 rfl rfl rfl rfl rfl ?_
  refine any_val hτ [0] 9 rfl rfl rfl rfl rfl ?_
  refine any_val hτ (v := .d (.int .i64 (g_.Feeder.Buses.length : Int))) [] 10 rfl rfl rfl rfl (Eq.trans rfl (or_len (f := eSBus) g_.Feeder.Buses)) ?_
  refine bnd_elim h fun x63 hx63 h => ?_
  refine any_callP hτ false [] [0] 4 rfl rfl rfl rfl (enterOk func118 rfl rfl) rfl rfl (by simp) ⟨(by repeat' first | exact trivial | refine ⟨?_, ?_⟩), trivial⟩ (by repeat' first | exact trivial | refine ⟨?_, ?_⟩) (spec_l10Phases_ok n g_.Feeder.Source hx63) ⟨rfl, trivial⟩ ?_
  refine grd_elim h fun hg64 h => ?_
  refine any_need hτ (v := .d (.str (bstr (([70, 68, 82, 49] : Str) ++ x63)))) [] 5 rfl rfl rfl rfl (Eq.trans rfl (or_cat _ _)) hg64 ?_
  refine bnd_elim h fun x65 hx65 h => ?_
  refine any_callP hτ false [] [0] 11 rfl rfl rfl rfl (enterOk func119 rfl rfl) rfl rfl (by simp) ⟨trivial, trivial, trivial⟩ (by repeat' first | exact trivial | refine ⟨?_, ?_⟩) (spec_l10Word_ok n (g_.Feeder.Buses.length : Int) (1 : Int) hx65) ⟨rfl, trivial⟩ ?_
  refine grd_elim h fun hg66 h => ?_
  refine any_need hτ (v := .d (.str (bstr ((([70, 68, 82, 49] : Str) ++ x63) ++ x65)))) [] 12 rfl rfl rfl rfl (Eq.trans rfl (or_cat _ _)) hg66 ?_
  refine any_val hτ [] 13 rfl rfl rfl rfl rfl ?_
  refine any_done mixed (by kernel_rfl) ?_
  refine aw_hk1 (ι := Str) (fun v97 => St.of [(0, .ptr 0 0), (4, .d (.str (bstr v97)))] [.box [.d (.cx .f32 g_.Feeder.Source.A.re g_.Feeder.Source.A.im), .d (.cx .f32 g_.Feeder.Source.B.re g_.Feeder.Source.B.im), .d (.cx .f32 g_.Feeder.Source.C.re g_.Feeder.Source.C.im), .d (.sl false (g_.Feeder.Buses.map eSBus)), .d (.sl false (g_.Ties.map eSTie))]] f77.ntmps 1) (fun v97 => m_spec_l10Head_j1 n g_ v97 = some r) ?_ (fun hk140 => ?_)
  · rintro v97 h
    replace h : m_spec_l10Head_j1 n g_ v97 = some r := h
    unfold m_spec_l10Head_j1 at h
    refine aw_seq ?_
    refine aw_region ?_
    refine awl_val hτ rfl rfl rfl ?_
    refine awl_val hτ rfl rfl rfl ?_
    refine awl_val hτ rfl rfl rfl ?_
    refine awl_val hτ rfl rfl rfl ?_
    refine awl_val hτ rfl rfl rfl ?_
    refine awl_val hτ (v := .d (.int .i64 (g_.Ties.length : Int))) rfl rfl (Eq.trans rfl (or_len (f := eSTie) g_.Ties)) ?_
    refine bnd_elim h fun x98 hx98 h => ?_
    refine awl_callP hτ false [] rfl rfl rfl (enterOk func119 rfl rfl) rfl rfl (by simp) ⟨trivial, trivial, trivial⟩ (by repeat' first | exact trivial | refine ⟨?_, ?_⟩) (spec_l10Word_ok n (g_.Ties.length : Int) (1 : Int) hx98) ?_
    rintro r0 o0 n0 ⟨rfl, rfl, rfl⟩ -
    refine grd_elim h fun hg99 h => ?_
    refine awl_need hτ (v := .d (.str (bstr (v97 ++ x98)))) rfl rfl (Eq.trans rfl (or_cat _ _)) hg99 ?_
    refine awl_val hτ rfl rfl rfl ?_
    refine awl_nil ?_
    refine aw_seq ?_
    refine aw_seq ?_
    refine aw_weak (weak_ofP [0] (l := [(0, .ptr 0 0), (4, .d (.str (bstr (v97 ++ x98))))]) (objs := [.box [.d (.cx .f32 g_.Feeder.Source.A.re g_.Feeder.Source.A.im), .d (.cx .f32 g_.Feeder.Source.B.re g_.Feeder.Source.B.im), .d (.cx .f32 g_.Feeder.Source.C.re g_.Feeder.Source.C.im), .d (.sl false (g_.Feeder.Buses.map eSBus)), .d (.sl false (g_.Ties.map eSTie))]]) rfl (by simp) rfl (by repeat' first | exact trivial | refine ⟨?_, ?_⟩) ⟨rfl, trivial, rfl, trivial, trivial⟩) ?_
    refine aw_region ?_
    refine awl_val hτ rfl rfl rfl ?_
    refine awl_nil ?_
    refine aw_block ?_
    refine aw_loop (ι := Nat × Str × Int) (fun (m126, v111, v112) => St.of [(0, .ptr 0 0), (4, .d (.str (bstr v111))), (7, .d (.int .i64 v112))] [.box [.d (.cx .f32 g_.Feeder.Source.A.re g_.Feeder.Source.A.im), .d (.cx .f32 g_.Feeder.Source.B.re g_.Feeder.Source.B.im), .d (.cx .f32 g_.Feeder.Source.C.re g_.Feeder.Source.C.im), .d (.sl false (g_.Feeder.Buses.map eSBus)), .d (.sl false (g_.Ties.map eSTie))]] f77.ntmps 1) (fun (m126, v111, v112) => m_spec_l10Head_l2 n g_ m126 v111 v112 = some r) (fun x => x.1) (n, (v97 ++ x98), (0 : Int)) h (weak_ofP [0] (l := [(0, .ptr 0 0), (4, .d (.str (bstr (v97 ++ x98)))), (7, .d (.int .i64 (0 : Int)))]) (objs := [.box [.d (.cx .f32 g_.Feeder.Source.A.re g_.Feeder.Source.A.im), .d (.cx .f32 g_.Feeder.Source.B.re g_.Feeder.Source.B.im), .d (.cx .f32 g_.Feeder.Source.C.re g_.Feeder.Source.C.im), .d (.sl false (g_.Feeder.Buses.map eSBus)), .d (.sl false (g_.Ties.map eSTie))]]) rfl (by simp) rfl (by repeat' first | exact trivial | refine ⟨?_, ?_⟩) ⟨rfl, trivial, rfl, trivial, rfl, trivial, trivial⟩) ?_
    rintro ⟨m126, v111, v112⟩ h
    replace h : m_spec_l10Head_l2 n g_ m126 v111 v112 = some r := h
    rcases m126 with _ | m126
    · rw [m_spec_l10Head_l2] at h; cases h
    rw [m_spec_l10Head_l2] at h
    refine aw_seq ?_
    refine aw_seq ?_
    refine aw_region ?_
    refine awl_val hτ rfl rfl rfl ?_
    refine awl_val hτ rfl rfl rfl ?_
    refine awl_val hτ rfl rfl rfl ?_
    refine awl_val hτ rfl rfl rfl ?_
    refine awl_val hτ rfl rfl rfl ?_
    refine awl_val hτ (v := .d (.int .i64 (g_.Ties.length : Int))) rfl rfl (Eq.trans rfl (or_len (f := eSTie) g_.Ties)) ?_
    refine awl_val hτ rfl rfl rfl ?_
    refine awl_nil ?_
    refine aw_weak (weak_ofP [0] (l := [(0, .ptr 0 0), (4, .d (.str (bstr v111))), (7, .d (.int .i64 v112)), (93, .d (.bool (decide (v112 < (g_.Ties.length : Int)))))]) (objs := [.box [.d (.cx .f32 g_.Feeder.Source.A.re g_.Feeder.Source.A.im), .d (.cx .f32 g_.Feeder.Source.B.re g_.Feeder.Source.B.im), .d (.cx .f32 g_.Feeder.Source.C.re g_.Feeder.Source.C.im), .d (.sl false (g_.Feeder.Buses.map eSBus)), .d (.sl false (g_.Ties.map eSTie))]]) rfl (by simp) rfl (by repeat' first | exact trivial | refine ⟨?_, ?_⟩) ⟨rfl, trivial, rfl, trivial, rfl, trivial, rfl, trivial, trivial⟩) ?_
    refine aw_cond rfl (fun hc128 => ?_) (fun hc128 => ?_)
    · have h := if_t h hc128
      refine aw_skip ?_
      refine aw_seq ?_
      refine aw_block ?_
      refine aw_seq ?_
      refine aw_region ?_
      refine awl_val hτ rfl rfl rfl ?_
      refine awl_val hτ rfl rfl rfl ?_
      refine awl_val hτ rfl rfl rfl ?_
      refine awl_val hτ rfl rfl rfl ?_
      refine awl_val hτ rfl rfl rfl ?_
      refine bnd_elim h fun x129 hx129 h => ?_
      refine awl_elem hτ rfl rfl rfl (getI_some hx129).1 (map_getI hx129) rfl ?_
      refine awl_val hτ rfl rfl rfl ?_
      refine awl_nil ?_
      refine aw_weak (weak_ofP [0] (l := [(0, .ptr 0 0), (4, .d (.str (bstr v111))), (7, .d (.int .i64 v112)), (8, .rop [.int .i64 x129.A, .int .i64 x129.B, .cx .f32 x129.Own.re x129.Own.im, .cx .f32 x129.Shared.re x129.Shared.im, .int .i64 x129.Most] 0)]) (objs := [.box [.d (.cx .f32 g_.Feeder.Source.A.re g_.Feeder.Source.A.im), .d (.cx .f32 g_.Feeder.Source.B.re g_.Feeder.Source.B.im), .d (.cx .f32 g_.Feeder.Source.C.re g_.Feeder.Source.C.im), .d (.sl false (g_.Feeder.Buses.map eSBus)), .d (.sl false (g_.Ties.map eSTie))]]) rfl (by simp) rfl (by repeat' first | exact trivial | refine ⟨?_, ?_⟩) ⟨rfl, trivial, rfl, trivial, rfl, trivial, rfl, trivial, trivial⟩) ?_
      refine any_start ?_
      refine any_val hτ [] 0 rfl rfl rfl rfl rfl ?_
      refine any_val hτ [] 1 rfl rfl rfl rfl rfl ?_
      refine any_val hτ [] 2 rfl rfl rfl rfl rfl ?_
      refine any_val hτ [] 3 rfl rfl rfl rfl rfl ?_
      refine any_val hτ [] 4 rfl rfl rfl rfl rfl ?_
      refine any_val hτ [] 6 rfl rfl rfl rfl rfl ?_
      refine any_val hτ [] 7 rfl rfl rfl rfl rfl ?_
      refine any_val hτ [] 8 rfl rfl rfl rfl rfl ?_
      refine any_val hτ [] 9 rfl rfl rfl rfl rfl ?_
      refine any_val hτ [] 12 rfl rfl rfl rfl rfl ?_
      refine any_val hτ [] 13 rfl rfl rfl rfl rfl ?_
      refine any_val hτ [] 14 rfl rfl rfl rfl rfl ?_
      refine any_val hτ [] 15 rfl rfl rfl rfl rfl ?_
      refine any_val hτ [] 18 rfl rfl rfl rfl rfl ?_
      refine any_val hτ [] 19 rfl rfl rfl rfl rfl ?_
      refine any_val hτ [] 20 rfl rfl rfl rfl rfl ?_
      refine any_val hτ [] 21 rfl rfl rfl rfl rfl ?_
      refine any_val hτ [] 24 rfl rfl rfl rfl rfl ?_
      refine any_val hτ [] 25 rfl rfl rfl rfl rfl ?_
      refine any_val hτ [] 26 rfl rfl rfl rfl rfl ?_
      refine any_val hτ [] 27 rfl rfl rfl rfl rfl ?_
      refine bnd_elim h fun x130 hx130 h => ?_
      refine any_callP hτ false [] [0] 5 rfl rfl rfl rfl (enterOk func119 rfl rfl) rfl rfl (by simp) ⟨trivial, trivial, trivial⟩ (by repeat' first | exact trivial | refine ⟨?_, ?_⟩) (spec_l10Word_ok n x129.A (1 : Int) hx130) ⟨rfl, trivial⟩ ?_
      refine bnd_elim h fun x131 hx131 h => ?_
      refine any_callP hτ false [] [0] 10 rfl rfl rfl rfl (enterOk func119 rfl rfl) rfl rfl (by simp) ⟨trivial, trivial, trivial⟩ (by repeat' first | exact trivial | refine ⟨?_, ?_⟩) (spec_l10Word_ok n x129.B (1 : Int) hx131) ⟨rfl, trivial⟩ ?_
      refine grd_elim h fun hg132 h => ?_
      refine any_need hτ (v := .d (.str (bstr (x130 ++ x131)))) [] 11 rfl rfl rfl rfl (Eq.trans rfl (or_cat _ _)) hg132 ?_
      refine bnd_elim h fun x133 hx133 h => ?_
      refine any_callP hτ false [] [0] 16 rfl rfl rfl rfl (enterOk func120 rfl rfl) rfl rfl (by simp) ⟨trivial, trivial⟩ (by repeat' first | exact trivial | refine ⟨?_, ?_⟩) (spec_l10Complex_ok n x129.Own hx133) ⟨rfl, trivial⟩ ?_
      refine grd_elim h fun hg134 h => ?_
      refine any_need hτ (v := .d (.str (bstr ((x130 ++ x131) ++ x133)))) [] 17 rfl rfl rfl rfl (Eq.trans rfl (or_cat _ _)) hg134 ?_
      refine bnd_elim h fun x135 hx135 h => ?_
      refine any_callP hτ false [] [0] 22 rfl rfl rfl rfl (enterOk func120 rfl rfl) rfl rfl (by simp) ⟨trivial, trivial⟩ (by repeat' first | exact trivial | refine ⟨?_, ?_⟩) (spec_l10Complex_ok n x129.Shared hx135) ⟨rfl, trivial⟩ ?_
      refine grd_elim h fun hg136 h => ?_
      refine any_need hτ (v := .d (.str (bstr (((x130 ++ x131) ++ x133) ++ x135)))) [] 23 rfl rfl rfl rfl (Eq.trans rfl (or_cat _ _)) hg136 ?_
      refine bnd_elim h fun x137 hx137 h => ?_
      refine any_callP hτ false [] [0] 28 rfl rfl rfl rfl (enterOk func119 rfl rfl) rfl rfl (by simp) ⟨trivial, trivial, trivial⟩ (by repeat' first | exact trivial | refine ⟨?_, ?_⟩) (spec_l10Word_ok n x129.Most (4 : Int) hx137) ⟨rfl, trivial⟩ ?_
      refine grd_elim h fun hg138 h => ?_
      refine any_need hτ (v := .d (.str (bstr ((((x130 ++ x131) ++ x133) ++ x135) ++ x137)))) [] 29 rfl rfl rfl rfl (Eq.trans rfl (or_cat _ _)) hg138 ?_
      refine grd_elim h fun hg139 h => ?_
      refine any_need hτ (v := .d (.str (bstr (v111 ++ ((((x130 ++ x131) ++ x133) ++ x135) ++ x137))))) [] 30 rfl rfl rfl rfl (Eq.trans rfl (or_cat _ _)) hg139 ?_
      refine any_val hτ [] 31 rfl rfl rfl rfl rfl ?_
      refine any_done mixed (by kernel_rfl) ?_
      refine aw_weak (weak_ofP [0] (l := [(0, .ptr 0 0), (4, .d (.str (bstr (v111 ++ ((((x130 ++ x131) ++ x133) ++ x135) ++ x137))))), (7, .d (.int .i64 v112))]) (objs := [.box [.d (.cx .f32 g_.Feeder.Source.A.re g_.Feeder.Source.A.im), .d (.cx .f32 g_.Feeder.Source.B.re g_.Feeder.Source.B.im), .d (.cx .f32 g_.Feeder.Source.C.re g_.Feeder.Source.C.im), .d (.sl false (g_.Feeder.Buses.map eSBus)), .d (.sl false (g_.Ties.map eSTie))]]) rfl (by simp) rfl (by repeat' first | exact trivial | refine ⟨?_, ?_⟩) ⟨rfl, trivial, rfl, trivial, rfl, trivial, trivial⟩) ?_
      refine aw_region ?_
      refine awl_val hτ rfl rfl rfl ?_
      refine awl_val hτ rfl rfl rfl ?_
      refine awl_val hτ rfl rfl rfl ?_
      refine awl_nil ?_
      exact ⟨(m126, (v111 ++ ((((x130 ++ x131) ++ x133) ++ x135) ++ x137)), (w64 (v112 + (1 : Int)))), h, Nat.lt_succ_self m126, (weak_ofP [0] (l := [(0, .ptr 0 0), (4, .d (.str (bstr (v111 ++ ((((x130 ++ x131) ++ x133) ++ x135) ++ x137))))), (7, .d (.int .i64 (w64 (v112 + (1 : Int)))))]) (objs := [.box [.d (.cx .f32 g_.Feeder.Source.A.re g_.Feeder.Source.A.im), .d (.cx .f32 g_.Feeder.Source.B.re g_.Feeder.Source.B.im), .d (.cx .f32 g_.Feeder.Source.C.re g_.Feeder.Source.C.im), .d (.sl false (g_.Feeder.Buses.map eSBus)), .d (.sl false (g_.Ties.map eSTie))]]) rfl (by simp) rfl (by repeat' first | exact trivial | refine ⟨?_, ?_⟩) ⟨rfl, trivial, rfl, trivial, rfl, trivial, trivial⟩)⟩
    · have h := if_f h hc128
      refine aw_exit ?_
      refine aw_seq ?_
      refine aw_region ?_
      refine awl_val hτ rfl rfl rfl ?_
      refine awl_val hτ rfl rfl rfl ?_
      refine awl_nil ?_
      refine aw_weak (weak_ofP [0] (l := [(2, .d (.str (bstr v111)))]) (objs := [.box [.d (.cx .f32 g_.Feeder.Source.A.re g_.Feeder.Source.A.im), .d (.cx .f32 g_.Feeder.Source.B.re g_.Feeder.Source.B.im), .d (.cx .f32 g_.Feeder.Source.C.re g_.Feeder.Source.C.im), .d (.sl false (g_.Feeder.Buses.map eSBus)), .d (.sl false (g_.Ties.map eSTie))]]) rfl (by simp) rfl (by repeat' first | exact trivial | refine ⟨?_, ?_⟩) ⟨rfl, trivial, trivial⟩) ?_
      refine aw_ret ?_
      have hr := Option.some.inj h
      subst hr
      exact ret_objs (.inr rfl) [] (objs' := [.box [.d (.cx .f32 g_.Feeder.Source.A.re g_.Feeder.Source.A.im), .d (.cx .f32 g_.Feeder.Source.B.re g_.Feeder.Source.B.im), .d (.cx .f32 g_.Feeder.Source.C.re g_.Feeder.Source.C.im), .d (.sl false (g_.Feeder.Buses.map eSBus)), .d (.sl false (g_.Ties.map eSTie))]]) (new := []) rfl (by simp) (by simp) rfl (by repeat' first | exact trivial | refine ⟨?_, ?_⟩) rfl rfl (by repeat' first | exact trivial | refine ⟨?_, ?_⟩) (fun h => nomatch h) ⟨rfl, rfl, rfl⟩
  · refine aw_seq ?_
    refine aw_seq ?_
    refine aw_weak (weak_ofP [0] (l := [(0, .ptr 0 0), (3, .ptr 0 0), (4, .d (.str (bstr ((([70, 68, 82, 49] : Str) ++ x63) ++ x65))))]) (objs := [.box [.d (.cx .f32 g_.Feeder.Source.A.re g_.Feeder.Source.A.im), .d (.cx .f32 g_.Feeder.Source.B.re g_.Feeder.Source.B.im), .d (.cx .f32 g_.Feeder.Source.C.re g_.Feeder.Source.C.im), .d (.sl false (g_.Feeder.Buses.map eSBus)), .d (.sl false (g_.Ties.map eSTie))]]) rfl (by simp) rfl (by repeat' first | exact trivial | refine ⟨?_, ?_⟩) ⟨rfl, trivial, rfl, trivial, rfl, trivial, trivial⟩) ?_
    refine aw_region ?_
    refine awl_val hτ rfl rfl rfl ?_
    refine awl_nil ?_
    refine aw_block ?_
    refine aw_loop (ι := Nat × Str × Int) (fun (m171, v154, v155) => St.of [(0, .ptr 0 0), (3, .ptr 0 0), (4, .d (.str (bstr v154))), (5, .d (.int .i64 v155))] [.box [.d (.cx .f32 g_.Feeder.Source.A.re g_.Feeder.Source.A.im), .d (.cx .f32 g_.Feeder.Source.B.re g_.Feeder.Source.B.im), .d (.cx .f32 g_.Feeder.Source.C.re g_.Feeder.Source.C.im), .d (.sl false (g_.Feeder.Buses.map eSBus)), .d (.sl false (g_.Ties.map eSTie))]] f77.ntmps 1) (fun (m171, v154, v155) => m_spec_l10Head_l3 n g_ m171 v154 v155 = some r) (fun x => x.1) (n, ((([70, 68, 82, 49] : Str) ++ x63) ++ x65), (0 : Int)) h (weak_ofP [0] (l := [(0, .ptr 0 0), (3, .ptr 0 0), (4, .d (.str (bstr ((([70, 68, 82, 49] : Str) ++ x63) ++ x65)))), (5, .d (.int .i64 (0 : Int)))]) (objs := [.box [.d (.cx .f32 g_.Feeder.Source.A.re g_.Feeder.Source.A.im), .d (.cx .f32 g_.Feeder.Source.B.re g_.Feeder.Source.B.im), .d (.cx .f32 g_.Feeder.Source.C.re g_.Feeder.Source.C.im), .d (.sl false (g_.Feeder.Buses.map eSBus)), .d (.sl false (g_.Ties.map eSTie))]]) rfl (by simp) rfl (by repeat' first | exact trivial | refine ⟨?_, ?_⟩) ⟨rfl, trivial, rfl, trivial, rfl, trivial, rfl, trivial, trivial⟩) ?_
    rintro ⟨m171, v154, v155⟩ h
    replace h : m_spec_l10Head_l3 n g_ m171 v154 v155 = some r := h
    rcases m171 with _ | m171
    · rw [m_spec_l10Head_l3] at h; cases h
    rw [m_spec_l10Head_l3] at h
    refine aw_seq ?_
    refine aw_seq ?_
    refine aw_region ?_
    refine awl_val hτ rfl rfl rfl ?_
    refine awl_val hτ rfl rfl rfl ?_
    refine awl_val hτ rfl rfl rfl ?_
    refine awl_val hτ rfl rfl rfl ?_
    refine awl_val hτ rfl rfl rfl ?_
    refine awl_val hτ (v := .d (.int .i64 (g_.Feeder.Buses.length : Int))) rfl rfl (Eq.trans rfl (or_len (f := eSBus) g_.Feeder.Buses)) ?_
    refine awl_val hτ rfl rfl rfl ?_
    refine awl_nil ?_
    refine aw_weak (weak_ofP [0] (l := [(0, .ptr 0 0), (3, .ptr 0 0), (4, .d (.str (bstr v154))), (5, .d (.int .i64 v155)), (31, .d (.bool (decide (v155 < (g_.Feeder.Buses.length : Int)))))]) (objs := [.box [.d (.cx .f32 g_.Feeder.Source.A.re g_.Feeder.Source.A.im), .d (.cx .f32 g_.Feeder.Source.B.re g_.Feeder.Source.B.im), .d (.cx .f32 g_.Feeder.Source.C.re g_.Feeder.Source.C.im), .d (.sl false (g_.Feeder.Buses.map eSBus)), .d (.sl false (g_.Ties.map eSTie))]]) rfl (by simp) rfl (by repeat' first | exact trivial | refine ⟨?_, ?_⟩) ⟨rfl, trivial, rfl, trivial, rfl, trivial, rfl, trivial, rfl, trivial, trivial⟩) ?_
    refine aw_cond rfl (fun hc173 => ?_) (fun hc173 => ?_)
    · have h := if_t h hc173
      refine aw_skip ?_
      refine aw_seq ?_
      refine aw_block ?_
      refine aw_seq ?_
      refine aw_region ?_
      refine awl_val hτ rfl rfl rfl ?_
      refine awl_val hτ rfl rfl rfl ?_
      refine awl_val hτ rfl rfl rfl ?_
      refine awl_val hτ rfl rfl rfl ?_
      refine awl_val hτ rfl rfl rfl ?_
      refine bnd_elim h fun x174 hx174 h => ?_
      refine awl_elem hτ rfl rfl rfl (getI_some hx174).1 (map_getI hx174) rfl ?_
      refine awl_val hτ rfl rfl rfl ?_
      refine awl_nil ?_
      refine aw_seq ?_
      refine aw_weak (weak_ofP [0] (l := [(0, .ptr 0 0), (3, .ptr 0 0), (4, .d (.str (bstr v154))), (5, .d (.int .i64 v155)), (6, .rop [.int .i64 x174.Parent, .cx .f32 x174.Own.re x174.Own.im, .cx .f32 x174.Shared.re x174.Shared.im, .int .i64 x174.Kind, .cx .f32 x174.Load.A.re x174.Load.A.im, .cx .f32 x174.Load.B.re x174.Load.B.im, .cx .f32 x174.Load.C.re x174.Load.C.im, .int .i64 x174.Customers] 0)]) (objs := [.box [.d (.cx .f32 g_.Feeder.Source.A.re g_.Feeder.Source.A.im), .d (.cx .f32 g_.Feeder.Source.B.re g_.Feeder.Source.B.im), .d (.cx .f32 g_.Feeder.Source.C.re g_.Feeder.Source.C.im), .d (.sl false (g_.Feeder.Buses.map eSBus)), .d (.sl false (g_.Ties.map eSTie))]]) rfl (by simp) rfl (by repeat' first | exact trivial | refine ⟨?_, ?_⟩) ⟨rfl, trivial, rfl, trivial, rfl, trivial, rfl, trivial, rfl, trivial, trivial⟩) ?_
      refine any_start ?_
      refine any_val hτ [] 0 rfl rfl rfl rfl rfl ?_
      refine any_val hτ [] 1 rfl rfl rfl rfl rfl ?_
      refine any_val hτ [] 2 rfl rfl rfl rfl rfl ?_
      refine any_val hτ [] 3 rfl rfl rfl rfl rfl ?_
      refine any_val hτ [] 4 rfl rfl rfl rfl rfl ?_
      refine any_val hτ [] 5 rfl rfl rfl rfl rfl ?_
      refine any_val hτ [] 7 rfl rfl rfl rfl rfl ?_
      refine any_val hτ [] 8 rfl rfl rfl rfl rfl ?_
      refine any_val hτ [] 9 rfl rfl rfl rfl rfl ?_
      refine any_val hτ [] 10 rfl rfl rfl rfl rfl ?_
      refine any_val hτ [] 13 rfl rfl rfl rfl rfl ?_
      refine any_val hτ [] 14 rfl rfl rfl rfl rfl ?_
      refine any_val hτ [] 15 rfl rfl rfl rfl rfl ?_
      refine any_val hτ [] 16 rfl rfl rfl rfl rfl ?_
      refine any_val hτ [] 19 rfl rfl rfl rfl rfl ?_
      refine any_val hτ [] 20 rfl rfl rfl rfl rfl ?_
      refine any_val hτ [] 21 rfl rfl rfl rfl rfl ?_
      refine any_val hτ [] 22 rfl rfl rfl rfl rfl ?_
      refine bnd_elim h fun x175 hx175 h => ?_
      refine any_callP hτ false [] [0] 6 rfl rfl rfl rfl (enterOk func119 rfl rfl) rfl rfl (by simp) ⟨trivial, trivial, trivial⟩ (by repeat' first | exact trivial | refine ⟨?_, ?_⟩) (spec_l10Word_ok n (w64 (x174.Parent + (1 : Int))) (1 : Int) hx175) ⟨rfl, trivial⟩ ?_
      refine bnd_elim h fun x176 hx176 h => ?_
      refine any_callP hτ false [] [0] 11 rfl rfl rfl rfl (enterOk func120 rfl rfl) rfl rfl (by simp) ⟨trivial, trivial⟩ (by repeat' first | exact trivial | refine ⟨?_, ?_⟩) (spec_l10Complex_ok n x174.Own hx176) ⟨rfl, trivial⟩ ?_
      refine grd_elim h fun hg177 h => ?_
      refine any_need hτ (v := .d (.str (bstr (x175 ++ x176)))) [] 12 rfl rfl rfl rfl (Eq.trans rfl (or_cat _ _)) hg177 ?_
      refine bnd_elim h fun x178 hx178 h => ?_
      refine any_callP hτ false [] [0] 17 rfl rfl rfl rfl (enterOk func120 rfl rfl) rfl rfl (by simp) ⟨trivial, trivial⟩ (by repeat' first | exact trivial | refine ⟨?_, ?_⟩) (spec_l10Complex_ok n x174.Shared hx178) ⟨rfl, trivial⟩ ?_
      refine grd_elim h fun hg179 h => ?_
      refine any_need hτ (v := .d (.str (bstr ((x175 ++ x176) ++ x178)))) [] 18 rfl rfl rfl rfl (Eq.trans rfl (or_cat _ _)) hg179 ?_
      refine bnd_elim h fun x180 hx180 h => ?_
      refine any_callP hτ false [] [0] 23 rfl rfl rfl rfl (enterOk func119 rfl rfl) rfl rfl (by simp) ⟨trivial, trivial, trivial⟩ (by repeat' first | exact trivial | refine ⟨?_, ?_⟩) (spec_l10Word_ok n x174.Kind (1 : Int) hx180) ⟨rfl, trivial⟩ ?_
      refine grd_elim h fun hg181 h => ?_
      refine any_need hτ (v := .d (.str (bstr (((x175 ++ x176) ++ x178) ++ x180)))) [] 24 rfl rfl rfl rfl (Eq.trans rfl (or_cat _ _)) hg181 ?_
      refine grd_elim h fun hg182 h => ?_
      refine any_need hτ (v := .d (.str (bstr (v154 ++ (((x175 ++ x176) ++ x178) ++ x180))))) [] 25 rfl rfl rfl rfl (Eq.trans rfl (or_cat _ _)) hg182 ?_
      refine any_val hτ [] 26 rfl rfl rfl rfl rfl ?_
      refine any_done mixed (by kernel_rfl) ?_
      refine aw_weak (weak_ofP [0] (l := [(0, .ptr 0 0), (3, .ptr 0 0), (4, .d (.str (bstr (v154 ++ (((x175 ++ x176) ++ x178) ++ x180))))), (5, .d (.int .i64 v155)), (6, .rop [.int .i64 x174.Parent, .cx .f32 x174.Own.re x174.Own.im, .cx .f32 x174.Shared.re x174.Shared.im, .int .i64 x174.Kind, .cx .f32 x174.Load.A.re x174.Load.A.im, .cx .f32 x174.Load.B.re x174.Load.B.im, .cx .f32 x174.Load.C.re x174.Load.C.im, .int .i64 x174.Customers] 0)]) (objs := [.box [.d (.cx .f32 g_.Feeder.Source.A.re g_.Feeder.Source.A.im), .d (.cx .f32 g_.Feeder.Source.B.re g_.Feeder.Source.B.im), .d (.cx .f32 g_.Feeder.Source.C.re g_.Feeder.Source.C.im), .d (.sl false (g_.Feeder.Buses.map eSBus)), .d (.sl false (g_.Ties.map eSTie))]]) rfl (by simp) rfl (by repeat' first | exact trivial | refine ⟨?_, ?_⟩) ⟨rfl, trivial, rfl, trivial, rfl, trivial, rfl, trivial, rfl, trivial, trivial⟩) ?_
      refine any_start ?_
      refine any_val hτ [] 0 rfl rfl rfl rfl rfl ?_
      refine any_val hτ [] 1 rfl rfl rfl rfl rfl ?_
      refine any_val hτ [] 2 rfl rfl rfl rfl rfl ?_
      refine any_val hτ [] 3 rfl rfl rfl rfl rfl ?_
      refine any_val hτ [] 4 rfl rfl rfl rfl rfl ?_
      refine any_val hτ [] 6 rfl rfl rfl rfl rfl ?_
      refine any_val hτ [] 7 rfl rfl rfl rfl rfl ?_
      refine any_val hτ [] 8 rfl rfl rfl rfl rfl ?_
      refine any_val hτ [] 9 rfl rfl rfl rfl rfl ?_
      refine bnd_elim h fun x183 hx183 h => ?_
      refine any_callP hτ false [] [0] 5 rfl rfl rfl rfl (enterOk func118 rfl rfl) rfl rfl (by simp) ⟨(by repeat' first | exact trivial | refine ⟨?_, ?_⟩), trivial⟩ (by repeat' first | exact trivial | refine ⟨?_, ?_⟩) (spec_l10Phases_ok n x174.Load hx183) ⟨rfl, trivial⟩ ?_
      refine bnd_elim h fun x184 hx184 h => ?_
      refine any_callP hτ false [] [0] 10 rfl rfl rfl rfl (enterOk func119 rfl rfl) rfl rfl (by simp) ⟨trivial, trivial, trivial⟩ (by repeat' first | exact trivial | refine ⟨?_, ?_⟩) (spec_l10Word_ok n x174.Customers (4 : Int) hx184) ⟨rfl, trivial⟩ ?_
      refine grd_elim h fun hg185 h => ?_
      refine any_need hτ (v := .d (.str (bstr (x183 ++ x184)))) [] 11 rfl rfl rfl rfl (Eq.trans rfl (or_cat _ _)) hg185 ?_
      refine grd_elim h fun hg186 h => ?_
      refine any_need hτ (v := .d (.str (bstr ((v154 ++ (((x175 ++ x176) ++ x178) ++ x180)) ++ (x183 ++ x184))))) [] 12 rfl rfl rfl rfl (Eq.trans rfl (or_cat _ _)) hg186 ?_
      refine any_val hτ [] 13 rfl rfl rfl rfl rfl ?_
      refine any_done mixed (by kernel_rfl) ?_
      refine aw_weak (weak_ofP [0] (l := [(0, .ptr 0 0), (3, .ptr 0 0), (4, .d (.str (bstr ((v154 ++ (((x175 ++ x176) ++ x178) ++ x180)) ++ (x183 ++ x184))))), (5, .d (.int .i64 v155))]) (objs := [.box [.d (.cx .f32 g_.Feeder.Source.A.re g_.Feeder.Source.A.im), .d (.cx .f32 g_.Feeder.Source.B.re g_.Feeder.Source.B.im), .d (.cx .f32 g_.Feeder.Source.C.re g_.Feeder.Source.C.im), .d (.sl false (g_.Feeder.Buses.map eSBus)), .d (.sl false (g_.Ties.map eSTie))]]) rfl (by simp) rfl (by repeat' first | exact trivial | refine ⟨?_, ?_⟩) ⟨rfl, trivial, rfl, trivial, rfl, trivial, rfl, trivial, trivial⟩) ?_
      refine aw_region ?_
      refine awl_val hτ rfl rfl rfl ?_
      refine awl_val hτ rfl rfl rfl ?_
      refine awl_val hτ rfl rfl rfl ?_
      refine awl_nil ?_
      exact ⟨(m171, ((v154 ++ (((x175 ++ x176) ++ x178) ++ x180)) ++ (x183 ++ x184)), (w64 (v155 + (1 : Int)))), h, Nat.lt_succ_self m171, (weak_ofP [0] (l := [(0, .ptr 0 0), (3, .ptr 0 0), (4, .d (.str (bstr ((v154 ++ (((x175 ++ x176) ++ x178) ++ x180)) ++ (x183 ++ x184))))), (5, .d (.int .i64 (w64 (v155 + (1 : Int)))))]) (objs := [.box [.d (.cx .f32 g_.Feeder.Source.A.re g_.Feeder.Source.A.im), .d (.cx .f32 g_.Feeder.Source.B.re g_.Feeder.Source.B.im), .d (.cx .f32 g_.Feeder.Source.C.re g_.Feeder.Source.C.im), .d (.sl false (g_.Feeder.Buses.map eSBus)), .d (.sl false (g_.Ties.map eSTie))]]) rfl (by simp) rfl (by repeat' first | exact trivial | refine ⟨?_, ?_⟩) ⟨rfl, trivial, rfl, trivial, rfl, trivial, rfl, trivial, trivial⟩)⟩
    · have h := if_f h hc173
      refine aw_exit ?_
      refine aw_weak (weak_ofP [0] (l := [(0, .ptr 0 0), (4, .d (.str (bstr v154)))]) (objs := [.box [.d (.cx .f32 g_.Feeder.Source.A.re g_.Feeder.Source.A.im), .d (.cx .f32 g_.Feeder.Source.B.re g_.Feeder.Source.B.im), .d (.cx .f32 g_.Feeder.Source.C.re g_.Feeder.Source.C.im), .d (.sl false (g_.Feeder.Buses.map eSBus)), .d (.sl false (g_.Ties.map eSTie))]]) rfl (by simp) rfl (by repeat' first | exact trivial | refine ⟨?_, ?_⟩) ⟨rfl, trivial, rfl, trivial, trivial⟩) ?_
      exact hk140 v154 h

def m_spec_l10Begin_j3 (n : Nat) (s_ : Str) (x59 : SPhases × SL10Eyes) (v86 : List SBus) (v109 : List STie) (v110 : Str) (v111 : Int) (v112 : Bool) : Option (SGrid × Int × Bool) :=
  if v112 = true then
    (m_spec_l08Is_2 n (SGrid.mk (SFeeder.mk x59.1 v86) v109)).bind fun x115 =>
    if x115 = true then
      grd (0 ≤ (0 : Int) ∧ (0 : Int) ≤ v111 ∧ v111 ≤ (s_.length : Int)) <|
      (m_spec_l10Head n (SGrid.mk (SFeeder.mk x59.1 v86) v109)).bind fun x118 =>
      some ((SGrid.mk (SFeeder.mk x59.1 v86) v109), v111, (decide (x118 = (sub s_ (0 : Int) v111))))
    else
      some ((SGrid.mk (SFeeder.mk x59.1 v86) v109), v111, false)
  else
    some ((SGrid.mk (SFeeder.mk x59.1 v86) v109), v111, false)
def m_spec_l10Begin_j5 (n : Nat) (k140 : List STie → Str → Int → Bool → Int → Option (SGrid × Int × Bool)) (v125 : List STie) (v126 : Str) (v127 : Int) (v128 : Bool) (v129 : Int) : Option (SGrid × Int × Bool) :=
  (m_spec_l10Eyes_tie n (SL10Eyes.mk v126 v127 v128)).bind fun x143 =>
  grd (room (v125.length + 1) 40) <|
  k140 (v125 ++ [x143.1]) x143.2.text x143.2.at_ x143.2.fine (w64 (v129 - (1 : Int)))
def m_spec_l10Begin_j6 (n : Nat) (s_ : Str) (x59 : SPhases × SL10Eyes) (v86 : List SBus) (k140 : List STie → Str → Int → Bool → Int → Option (SGrid × Int × Bool)) (v125 : List STie) (v126 : Str) (v127 : Int) (v128 : Bool) (v129 : Int) (v148 : Bool) : Option (SGrid × Int × Bool) :=
  if v148 = true then
    m_spec_l10Begin_j5 n k140 v125 v126 v127 v128 v129
  else
    m_spec_l10Begin_j3 n s_ x59 v86 v125 v126 v127 v128
def m_spec_l10Begin_l4 (n : Nat) (s_ : Str) (x59 : SPhases × SL10Eyes) (v86 : List SBus) : Nat → List STie → Str → Int → Bool → Int → Option (SGrid × Int × Bool)
  | 0, _, _, _, _, _ => none
  | m139 + 1, v125, v126, v127, v128, v129 =>
    if v129 > (0 : Int) then
      m_spec_l10Begin_j6 n s_ x59 v86 (m_spec_l10Begin_l4 n s_ x59 v86 m139) v125 v126 v127 v128 v129 v128
    else
      m_spec_l10Begin_j6 n s_ x59 v86 (m_spec_l10Begin_l4 n s_ x59 v86 m139) v125 v126 v127 v128 v129 false
def m_spec_l10Begin_j2 (n : Nat) (s_ : Str) (x59 : SPhases × SL10Eyes) (v84 : List SBus) (v85 : List STie) (v86 : List SBus) (v87 : Str) (v88 : Int) (v89 : Bool) : Option (SGrid × Int × Bool) :=
  (m_spec_l10Eyes_word n (SL10Eyes.mk v87 v88 v89) (1 : Int)).bind fun x120 =>
  m_spec_l10Begin_l4 n s_ x59 v86 n ([] : List STie) x120.2.text x120.2.at_ x120.2.fine x120.1
def m_spec_l10Begin_j8 (n : Nat) (k178 : List SBus → List STie → List SBus → Str → Int → Bool → Int → Option (SGrid × Int × Bool)) (v159 : List SBus) (v160 : List STie) (v161 : List SBus) (v162 : Str) (v163 : Int) (v164 : Bool) (v165 : Int) : Option (SGrid × Int × Bool) :=
  (m_spec_l10Eyes_bus n (SL10Eyes.mk v162 v163 v164)).bind fun x181 =>
  grd (room (v161.length + 1) 64) <|
  k178 v159 v160 (v161 ++ [x181.1]) x181.2.text x181.2.at_ x181.2.fine (w64 (v165 - (1 : Int)))
def m_spec_l10Begin_j9 (n : Nat) (s_ : Str) (x59 : SPhases × SL10Eyes) (k178 : List SBus → List STie → List SBus → Str → Int → Bool → Int → Option (SGrid × Int × Bool)) (v159 : List SBus) (v160 : List STie) (v161 : List SBus) (v162 : Str) (v163 : Int) (v164 : Bool) (v165 : Int) (v186 : Bool) : Option (SGrid × Int × Bool) :=
  if v186 = true then
    m_spec_l10Begin_j8 n k178 v159 v160 v161 v162 v163 v164 v165
  else
    m_spec_l10Begin_j2 n s_ x59 v159 v160 v161 v162 v163 v164
def m_spec_l10Begin_l7 (n : Nat) (s_ : Str) (x59 : SPhases × SL10Eyes) : Nat → List SBus → List STie → List SBus → Str → Int → Bool → Int → Option (SGrid × Int × Bool)
  | 0, _, _, _, _, _, _, _ => none
  | m177 + 1, v159, v160, v161, v162, v163, v164, v165 =>
    if v165 > (0 : Int) then
      m_spec_l10Begin_j9 n s_ x59 (m_spec_l10Begin_l7 n s_ x59 m177) v159 v160 v161 v162 v163 v164 v165 v164
    else
      m_spec_l10Begin_j9 n s_ x59 (m_spec_l10Begin_l7 n s_ x59 m177) v159 v160 v161 v162 v163 v164 v165 false
def m_spec_l10Begin_j1 (n : Nat) (s_ : Str) : Option (SGrid × Int × Bool) :=
  (m_spec_l10Eyes_phases n (SL10Eyes.mk s_ (4 : Int) true)).bind fun x59 =>
  (m_spec_l10Eyes_word n x59.2 (1 : Int)).bind fun x153 =>
  m_spec_l10Begin_l7 n s_ x59 n ([] : List SBus) ([] : List STie) ([] : List SBus) x153.2.text x153.2.at_ x153.2.fine x153.1
def m_spec_l10Begin_j10 (n : Nat) (s_ : Str) (v194 : Bool) : Option (SGrid × Int × Bool) :=
  if v194 = true then
    some ((SGrid.mk (SFeeder.mk (SPhases.mk (Cx.mk (0 : Nat) (0 : Nat)) (Cx.mk (0 : Nat) (0 : Nat)) (Cx.mk (0 : Nat) (0 : Nat))) ([] : List SBus)) ([] : List STie)), (0 : Int), false)
  else
    m_spec_l10Begin_j1 n s_
def m_spec_l10Begin (n : Nat) (s_ : Str) : Option (SGrid × Int × Bool) :=
  if (s_.length : Int) < (4 : Int) then
    m_spec_l10Begin_j10 n s_ true
  else
    grd (0 ≤ (0 : Int) ∧ (0 : Int) ≤ (4 : Int) ∧ (4 : Int) ≤ (s_.length : Int)) <|
    m_spec_l10Begin_j10 n s_ (!(decide ((sub s_ (0 : Int) (4 : Int)) = ([70, 68, 82, 49] : Str))))
theorem spec_l10Begin_ok (n : Nat) (s_ : Str) {r : SGrid × Int × Bool} (h : m_spec_l10Begin n s_ = some r) : ACall prog false 33 [.d (.str (bstr s_))] [] (fun v o new => v = .tup [.agg [.d (.cx .f32 r.1.Feeder.Source.A.re r.1.Feeder.Source.A.im), .d (.cx .f32 r.1.Feeder.Source.B.re r.1.Feeder.Source.B.im), .d (.cx .f32 r.1.Feeder.Source.C.re r.1.Feeder.Source.C.im), .d (.sl false (r.1.Feeder.Buses.map eSBus)), .d (.sl false (r.1.Ties.map eSTie))], .d (.int .i64 r.2.1), .d (.bool r.2.2)] ∧ o = [] ∧ new = []) := by
  refine acall_of_aw hτ func33 rfl (by simp) (by simp) ?_
  unfold m_spec_l10Begin at h
  refine aw_seq ?_
  refine aw_region ?_
  refine awl_valH hτ rfl rfl rfl ?_
  refine awl_val hτ rfl rfl rfl ?_
  refine awl_val hτ rfl rfl rfl ?_
  refine awl_nil ?_
  refine aw_seq ?_
  refine aw_region ?_
  refine awl_valH hτ rfl rfl rfl ?_
  refine awl_val hτ rfl rfl rfl ?_
  refine awl_valH hτ rfl rfl rfl ?_
  refine awl_valH hτ rfl rfl rfl ?_
  refine awl_nil ?_
  refine aw_hk1 (ι := Unit) (fun _ => St.of [(0, .d (.str (bstr s_))), (2, .ptr 0 0), (5, .ptr 1 0)] [.box [.d (.cx .f32 (0 : Nat) (0 : Nat)), .d (.cx .f32 (0 : Nat) (0 : Nat)), .d (.cx .f32 (0 : Nat) (0 : Nat)), .d (.nils), .d (.nils)], .box [.d (.cx .f32 (0 : Nat) (0 : Nat)), .d (.cx .f32 (0 : Nat) (0 : Nat)), .d (.cx .f32 (0 : Nat) (0 : Nat)), .d (.nils), .row 2 (([] : List STie).length) 0 (([] : List STie).length)], .row 5 (([] : List STie).map eSTie)] f33.ntmps 0) (fun _ => m_spec_l10Begin_j1 n s_ = some r) ?_ (fun hk190 => ?_)
  · rintro ⟨⟩ h
    replace h : m_spec_l10Begin_j1 n s_ = some r := h
    unfold m_spec_l10Begin_j1 at h
    refine aw_seq ?_
    refine aw_region ?_
    refine awl_val hτ rfl rfl rfl ?_
    refine awl_val hτ rfl rfl rfl ?_
    refine awl_valH hτ rfl rfl rfl ?_
    refine awl_val hτ rfl rfl rfl ?_
    refine awl_nil ?_
    refine aw_seq ?_
    refine aw_region ?_
    refine awl_val hτ rfl rfl rfl ?_
    refine bnd_elim h fun x59 hx59 h => ?_
    refine awl_callP hτ false [3] rfl rfl rfl (enterOk func72 rfl rfl) rfl rfl (by simp) ⟨trivial, trivial⟩ (by repeat' first | exact trivial | refine ⟨?_, ?_⟩) (spec_l10Eyes_phases_ok n (SL10Eyes.mk s_ (4 : Int) true) hx59) ?_
    rintro r0 o0 n0 ⟨rfl, rfl, rfl⟩ -
    refine awl_val hτ rfl rfl rfl ?_
    refine awl_val hτ rfl rfl rfl ?_
    refine awl_valH hτ rfl rfl rfl ?_
    refine awl_nil ?_
    refine aw_hk1 (ι := List SBus × List STie × List SBus × Str × Int × Bool) (fun (v84, v85, v86, v87, v88, v89) => St.of [(0, .d (.str (bstr s_))), (2, .ptr 0 0), (5, .ptr 3 0), (6, .ptr 6 0)] [.box [.d (.cx .f32 (0 : Nat) (0 : Nat)), .d (.cx .f32 (0 : Nat) (0 : Nat)), .d (.cx .f32 (0 : Nat) (0 : Nat)), .row 1 v84.length 0 v84.length, .row 2 v85.length 0 v85.length], .row 8 (v84.map eSBus), .row 5 (v85.map eSTie), .box [.d (.cx .f32 x59.1.A.re x59.1.A.im), .d (.cx .f32 x59.1.B.re x59.1.B.im), .d (.cx .f32 x59.1.C.re x59.1.C.im), .row 4 v86.length 0 v86.length, .row 5 (([] : List STie).length) 0 (([] : List STie).length)], .row 8 (v86.map eSBus), .row 5 (([] : List STie).map eSTie), .box [.d (.str (bstr v87)), .d (.int .i64 v88), .d (.bool v89)]] f33.ntmps 0) (fun (v84, v85, v86, v87, v88, v89) => m_spec_l10Begin_j2 n s_ x59 v84 v85 v86 v87 v88 v89 = some r) ?_ (fun hk152 => ?_)
    · rintro ⟨v84, v85, v86, v87, v88, v89⟩ h
      replace h : m_spec_l10Begin_j2 n s_ x59 v84 v85 v86 v87 v88 v89 = some r := h
      unfold m_spec_l10Begin_j2 at h
      refine aw_hk1 (ι := List STie × Str × Int × Bool) (fun (v109, v110, v111, v112) => St.of [(0, .d (.str (bstr s_))), (2, .ptr 0 0), (5, .ptr 3 0), (6, .ptr 6 0)] [.box [.d (.cx .f32 (0 : Nat) (0 : Nat)), .d (.cx .f32 (0 : Nat) (0 : Nat)), .d (.cx .f32 (0 : Nat) (0 : Nat)), .row 1 v84.length 0 v84.length, .row 2 v85.length 0 v85.length], .row 8 (v84.map eSBus), .row 5 (v85.map eSTie), .box [.d (.cx .f32 x59.1.A.re x59.1.A.im), .d (.cx .f32 x59.1.B.re x59.1.B.im), .d (.cx .f32 x59.1.C.re x59.1.C.im), .row 4 v86.length 0 v86.length, .row 5 v109.length 0 v109.length], .row 8 (v86.map eSBus), .row 5 (v109.map eSTie), .box [.d (.str (bstr v110)), .d (.int .i64 v111), .d (.bool v112)]] f33.ntmps 0) (fun (v109, v110, v111, v112) => m_spec_l10Begin_j3 n s_ x59 v86 v109 v110 v111 v112 = some r) ?_ (fun hk119 => ?_)
      · rintro ⟨v109, v110, v111, v112⟩ h
        replace h : m_spec_l10Begin_j3 n s_ x59 v86 v109 v110 v111 v112 = some r := h
        unfold m_spec_l10Begin_j3 at h
        refine aw_seq ?_
        refine aw_weak (weak_ofP [0, 1, 2, 3, 6] (l := [(0, .d (.str (bstr s_))), (2, .ptr 0 0), (5, .ptr 3 0), (6, .ptr 4 0)]) (objs := [.box [.d (.cx .f32 (0 : Nat) (0 : Nat)), .d (.cx .f32 (0 : Nat) (0 : Nat)), .d (.cx .f32 (0 : Nat) (0 : Nat)), .row 1 v84.length 0 v84.length, .row 2 v85.length 0 v85.length], .row 8 (v84.map eSBus), .row 5 (v85.map eSTie), .box [.d (.cx .f32 x59.1.A.re x59.1.A.im), .d (.cx .f32 x59.1.B.re x59.1.B.im), .d (.cx .f32 x59.1.C.re x59.1.C.im), .d (.sl false (v86.map eSBus)), .d (.sl false (v109.map eSTie))], .box [.d (.str (bstr v110)), .d (.int .i64 v111), .d (.bool v112)]]) rfl (by simp) (mapO_cons rfl (mapO_cons rfl (mapO_cons rfl (mapO_cons (exO_box (mapO_cons rfl (mapO_cons rfl (mapO_cons rfl (mapO_cons (exC_view (f := eSBus) v86 rfl rfl rfl) (mapO_cons (exC_view (f := eSTie) v109 rfl rfl rfl) mapO_nil)))))) (mapO_cons rfl mapO_nil))))) ⟨(by repeat' first | exact trivial | refine ⟨?_, ?_⟩), trivial, trivial, ⟨trivial, trivial, trivial, (exP_view (f := eSBus) v86 rfl rfl rfl), (exP_view (f := eSTie) v109 rfl rfl rfl)⟩, (by repeat' first | exact trivial | refine ⟨?_, ?_⟩), trivial⟩ ⟨rfl, trivial, rfl, trivial, rfl, trivial, rfl, trivial, trivial⟩) ?_
        refine any_start ?_
        refine any_val hτ [3] 0 rfl rfl rfl rfl rfl ?_
        refine any_val hτ [] 1 rfl rfl rfl rfl rfl ?_
        refine any_val hτ [] 2 rfl rfl rfl rfl rfl ?_
        refine any_val hτ [4] 3 rfl rfl rfl rfl rfl ?_
        refine any_val hτ [4] 4 rfl rfl rfl rfl rfl ?_
        refine any_val hτ [] 5 rfl rfl rfl rfl rfl ?_
        refine any_val hτ [] 6 rfl rfl rfl rfl rfl ?_
        refine any_val hτ [4] 7 rfl rfl rfl rfl rfl ?_
        refine any_val hτ [4] 8 rfl rfl rfl rfl rfl ?_
        refine any_val hτ [] 9 rfl rfl rfl rfl rfl ?_
        refine any_split 76 rfl (fun hb114 => ?_) (fun hb114 => ?_)
        · have h := if_bt h hb114
          refine bnd_elim h fun x115 hx115 h => ?_
          refine any_callP hτ false [3] [0, 1, 2, 3, 4] 10 rfl rfl rfl rfl (enterOk func76 rfl rfl) rfl rfl (by simp) ⟨trivial, trivial⟩ (by repeat' first | exact trivial | refine ⟨?_, ?_⟩) (spec_l08Is_2_ok n (SGrid.mk (SFeeder.mk x59.1 v86) v109) hx115) ⟨rfl, rfl, rfl, rfl, rfl, trivial⟩ ?_
          refine any_val hτ [] 11 rfl rfl rfl rfl rfl ?_
          refine any_val hτ [] 12 rfl rfl rfl rfl rfl ?_
          refine any_split 79 rfl (fun hb116 => ?_) (fun hb116 => ?_)
          · have h := if_bt h hb116
            refine any_val hτ [] 14 rfl rfl rfl rfl rfl ?_
            refine any_val hτ [] 15 rfl rfl rfl rfl rfl ?_
            refine any_val hτ [] 16 rfl rfl rfl rfl rfl ?_
            refine any_val hτ [4] 17 rfl rfl rfl rfl rfl ?_
            refine any_val hτ [4] 18 rfl rfl rfl rfl rfl ?_
            refine grd_elim h fun hg117 h => ?_
            refine any_need hτ (v := .d (.str (bstr (sub s_ (0 : Int) v111)))) [] 19 rfl rfl rfl rfl (Eq.trans rfl (or_ssub _ _ _)) hg117 ?_
            refine bnd_elim h fun x118 hx118 h => ?_
            refine any_callP hτ false [3] [0, 1, 2, 3, 4] 13 rfl rfl rfl rfl (enterOk func77 rfl rfl) rfl rfl (by simp) ⟨trivial, trivial⟩ (by repeat' first | exact trivial | refine ⟨?_, ?_⟩) (spec_l10Head_ok n (SGrid.mk (SFeeder.mk x59.1 v86) v109) hx118) ⟨rfl, rfl, rfl, rfl, rfl, trivial⟩ ?_
            refine any_val hτ (v := .d (.bool (decide (x118 = (sub s_ (0 : Int) v111))))) [] 20 rfl rfl rfl rfl (or_seq _ _) ?_
            refine any_val hτ [] 21 rfl rfl rfl rfl rfl ?_
            refine any_valHP hτ [1, 2, 3, 4] 22 rfl rfl rfl rfl ⟨rfl, rfl, rfl, rfl, trivial⟩ ?_
            refine any_val hτ [] 23 rfl rfl rfl rfl rfl ?_
            refine any_val hτ [] 24 rfl rfl rfl rfl rfl ?_
            refine any_done mixed (by kernel_rfl) ?_
            refine aw_weak (weak_ofP [0] (l := [(2, .ptr 0 0), (3, .d (.int .i64 v111)), (4, .d (.bool (decide (x118 = (sub s_ (0 : Int) v111)))))]) (objs := [.box [.d (.cx .f32 x59.1.A.re x59.1.A.im), .d (.cx .f32 x59.1.B.re x59.1.B.im), .d (.cx .f32 x59.1.C.re x59.1.C.im), .d (.sl false (v86.map eSBus)), .d (.sl false (v109.map eSTie))]]) rfl (by simp) rfl (by repeat' first | exact trivial | refine ⟨?_, ?_⟩) ⟨rfl, trivial, rfl, trivial, rfl, trivial, trivial⟩) ?_
            refine aw_ret ?_
            have hr := Option.some.inj h
            subst hr
            exact ret_objs (.inr rfl) [] (objs' := []) (new := []) rfl (by simp) (by simp) rfl (by repeat' first | exact trivial | refine ⟨?_, ?_⟩) rfl rfl (by repeat' first | exact trivial | refine ⟨?_, ?_⟩) (fun h => nomatch h) ⟨rfl, rfl, rfl⟩
          · have h := if_bf h hb116
            refine any_skip 14 rfl rfl rfl ?_
            refine any_skip 15 rfl rfl rfl ?_
            refine any_skip 16 rfl rfl rfl ?_
            refine any_skip 17 rfl rfl rfl ?_
            refine any_skip 18 rfl rfl rfl ?_
            refine any_skip 19 rfl rfl rfl ?_
            refine any_skip 13 rfl rfl rfl ?_
            refine any_skip 20 rfl rfl rfl ?_
            refine any_val hτ [] 21 rfl rfl rfl rfl rfl ?_
            refine any_valHP hτ [1, 2, 3, 4] 22 rfl rfl rfl rfl ⟨rfl, rfl, rfl, rfl, trivial⟩ ?_
            refine any_val hτ [] 23 rfl rfl rfl rfl rfl ?_
            refine any_val hτ [] 24 rfl rfl rfl rfl rfl ?_
            refine any_done mixed (by kernel_rfl) ?_
            refine aw_weak (weak_ofP [0] (l := [(2, .ptr 0 0), (3, .d (.int .i64 v111)), (4, .d (.bool false))]) (objs := [.box [.d (.cx .f32 x59.1.A.re x59.1.A.im), .d (.cx .f32 x59.1.B.re x59.1.B.im), .d (.cx .f32 x59.1.C.re x59.1.C.im), .d (.sl false (v86.map eSBus)), .d (.sl false (v109.map eSTie))]]) rfl (by simp) rfl (by repeat' first | exact trivial | refine ⟨?_, ?_⟩) ⟨rfl, trivial, rfl, trivial, rfl, trivial, trivial⟩) ?_
            refine aw_ret ?_
            have hr := Option.some.inj h
            subst hr
            exact ret_objs (.inr rfl) [] (objs' := []) (new := []) rfl (by simp) (by simp) rfl (by repeat' first | exact trivial | refine ⟨?_, ?_⟩) rfl rfl (by repeat' first | exact trivial | refine ⟨?_, ?_⟩) (fun h => nomatch h) ⟨rfl, rfl, rfl⟩
        · have h := if_bf h hb114
          refine any_skip 10 rfl rfl rfl ?_
          refine any_val hτ [] 11 rfl rfl rfl rfl rfl ?_
          refine any_val hτ [] 12 rfl rfl rfl rfl rfl ?_
          refine any_skip 14 rfl rfl rfl ?_
          refine any_skip 15 rfl rfl rfl ?_
          refine any_skip 16 rfl rfl rfl ?_
          refine any_skip 17 rfl rfl rfl ?_
          refine any_skip 18 rfl rfl rfl ?_
          refine any_skip 19 rfl rfl rfl ?_
          refine any_skip 13 rfl rfl rfl ?_
          refine any_skip 20 rfl rfl rfl ?_
          refine any_val hτ [] 21 rfl rfl rfl rfl rfl ?_
          refine any_valHP hτ [1, 2, 3, 4] 22 rfl rfl rfl rfl ⟨rfl, rfl, rfl, rfl, trivial⟩ ?_
          refine any_val hτ [] 23 rfl rfl rfl rfl rfl ?_
          refine any_val hτ [] 24 rfl rfl rfl rfl rfl ?_
          refine any_done mixed (by kernel_rfl) ?_
          refine aw_weak (weak_ofP [0] (l := [(2, .ptr 0 0), (3, .d (.int .i64 v111)), (4, .d (.bool false))]) (objs := [.box [.d (.cx .f32 x59.1.A.re x59.1.A.im), .d (.cx .f32 x59.1.B.re x59.1.B.im), .d (.cx .f32 x59.1.C.re x59.1.C.im), .d (.sl false (v86.map eSBus)), .d (.sl false (v109.map eSTie))]]) rfl (by simp) rfl (by repeat' first | exact trivial | refine ⟨?_, ?_⟩) ⟨rfl, trivial, rfl, trivial, rfl, trivial, trivial⟩) ?_
          refine aw_ret ?_
          have hr := Option.some.inj h
          subst hr
          exact ret_objs (.inr rfl) [] (objs' := []) (new := []) rfl (by simp) (by simp) rfl (by repeat' first | exact trivial | refine ⟨?_, ?_⟩) rfl rfl (by repeat' first | exact trivial | refine ⟨?_, ?_⟩) (fun h => nomatch h) ⟨rfl, rfl, rfl⟩
      · refine aw_seq ?_
        refine aw_seq ?_
        refine aw_region ?_
        refine awl_val hτ rfl rfl rfl ?_
        refine bnd_elim h fun x120 hx120 h => ?_
        refine awl_callP hτ false [6] rfl rfl rfl (enterOk func73 rfl rfl) rfl rfl (by simp) ⟨trivial, trivial, trivial⟩ (by repeat' first | exact trivial | refine ⟨?_, ?_⟩) (spec_l10Eyes_word_ok n (SL10Eyes.mk v87 v88 v89) (1 : Int) hx120) ?_
        rintro r0 o0 n0 ⟨rfl, rfl, rfl⟩ -
        refine awl_val hτ rfl rfl rfl ?_
        refine awl_nil ?_
        refine aw_block ?_
        refine aw_loop (ι := Nat × List STie × Str × Int × Bool × Int) (fun (m139, v125, v126, v127, v128, v129) => St.of [(0, .d (.str (bstr s_))), (2, .ptr 0 0), (5, .ptr 3 0), (6, .ptr 6 0), (8, .d (.int .i64 v129))] [.box [.d (.cx .f32 (0 : Nat) (0 : Nat)), .d (.cx .f32 (0 : Nat) (0 : Nat)), .d (.cx .f32 (0 : Nat) (0 : Nat)), .row 1 v84.length 0 v84.length, .row 2 v85.length 0 v85.length], .row 8 (v84.map eSBus), .row 5 (v85.map eSTie), .box [.d (.cx .f32 x59.1.A.re x59.1.A.im), .d (.cx .f32 x59.1.B.re x59.1.B.im), .d (.cx .f32 x59.1.C.re x59.1.C.im), .row 4 v86.length 0 v86.length, .row 5 v125.length 0 v125.length], .row 8 (v86.map eSBus), .row 5 (v125.map eSTie), .box [.d (.str (bstr v126)), .d (.int .i64 v127), .d (.bool v128)]] f33.ntmps 0) (fun (m139, v125, v126, v127, v128, v129) => m_spec_l10Begin_l4 n s_ x59 v86 m139 v125 v126 v127 v128 v129 = some r) (fun x => x.1) (n, ([] : List STie), x120.2.text, x120.2.at_, x120.2.fine, x120.1) h (weak_ofP [0, 1, 2, 3, 4, 5, 6] (l := [(0, .d (.str (bstr s_))), (2, .ptr 0 0), (5, .ptr 3 0), (6, .ptr 6 0), (8, .d (.int .i64 x120.1))]) (objs := [.box [.d (.cx .f32 (0 : Nat) (0 : Nat)), .d (.cx .f32 (0 : Nat) (0 : Nat)), .d (.cx .f32 (0 : Nat) (0 : Nat)), .row 1 v84.length 0 v84.length, .row 2 v85.length 0 v85.length], .row 8 (v84.map eSBus), .row 5 (v85.map eSTie), .box [.d (.cx .f32 x59.1.A.re x59.1.A.im), .d (.cx .f32 x59.1.B.re x59.1.B.im), .d (.cx .f32 x59.1.C.re x59.1.C.im), .row 4 v86.length 0 v86.length, .row 5 (([] : List STie).length) 0 (([] : List STie).length)], .row 8 (v86.map eSBus), .row 5 (([] : List STie).map eSTie), .box [.d (.str (bstr x120.2.text)), .d (.int .i64 x120.2.at_), .d (.bool x120.2.fine)]]) rfl (by simp) rfl (by repeat' first | exact trivial | refine ⟨?_, ?_⟩) ⟨rfl, trivial, rfl, trivial, rfl, trivial, rfl, trivial, rfl, trivial, trivial⟩) ?_
        rintro ⟨m139, v125, v126, v127, v128, v129⟩ h
        replace h : m_spec_l10Begin_l4 n s_ x59 v86 m139 v125 v126 v127 v128 v129 = some r := h
        rcases m139 with _ | m139
        · rw [m_spec_l10Begin_l4] at h; cases h
        rw [m_spec_l10Begin_l4] at h
        refine aw_hk1 (ι := Unit) (fun _ => St.of [(0, .d (.str (bstr s_))), (2, .ptr 0 0), (5, .ptr 3 0), (6, .ptr 6 0), (8, .d (.int .i64 v129))] [.box [.d (.cx .f32 (0 : Nat) (0 : Nat)), .d (.cx .f32 (0 : Nat) (0 : Nat)), .d (.cx .f32 (0 : Nat) (0 : Nat)), .row 1 v84.length 0 v84.length, .row 2 v85.length 0 v85.length], .row 8 (v84.map eSBus), .row 5 (v85.map eSTie), .box [.d (.cx .f32 x59.1.A.re x59.1.A.im), .d (.cx .f32 x59.1.B.re x59.1.B.im), .d (.cx .f32 x59.1.C.re x59.1.C.im), .row 4 v86.length 0 v86.length, .row 5 v125.length 0 v125.length], .row 8 (v86.map eSBus), .row 5 (v125.map eSTie), .box [.d (.str (bstr v126)), .d (.int .i64 v127), .d (.bool v128)]] f33.ntmps 0) (fun _ => m_spec_l10Begin_j5 n (m_spec_l10Begin_l4 n s_ x59 v86 m139) v125 v126 v127 v128 v129 = some r) ?_ (fun hk145 => ?_)
        · rintro ⟨⟩ h
          replace h : m_spec_l10Begin_j5 n (m_spec_l10Begin_l4 n s_ x59 v86 m139) v125 v126 v127 v128 v129 = some r := h
          unfold m_spec_l10Begin_j5 at h
          refine aw_seq ?_
          refine aw_block ?_
          refine any_start ?_
          refine any_val hτ [3] 0 rfl rfl rfl rfl rfl ?_
          refine any_val hτ [3] 1 rfl rfl rfl rfl rfl ?_
          refine any_val hτ [] 2 rfl rfl rfl rfl rfl ?_
          refine bnd_elim h fun x143 hx143 h => ?_
          refine any_callP hτ false [6] [0, 1, 2, 3, 4, 5] 3 rfl rfl rfl rfl (enterOk func75 rfl rfl) rfl rfl (by simp) ⟨trivial, trivial⟩ (by repeat' first | exact trivial | refine ⟨?_, ?_⟩) (spec_l10Eyes_tie_ok n (SL10Eyes.mk v126 v127 v128) hx143) ⟨rfl, rfl, rfl, rfl, rfl, rfl, trivial⟩ ?_
          refine any_valHP hτ [0, 1, 2, 3, 4, 5, 6] 4 rfl rfl rfl rfl ⟨rfl, rfl, rfl, rfl, rfl, rfl, rfl, trivial⟩ ?_
          refine grd_elim h fun hg144 h => ?_
          refine any_needHP hτ [0, 1, 2, 3, 4, 6, 7] 5 rfl rfl rfl (Eq.trans rfl (or_append (f := eSTie) v125 [x143.1] rfl)) ⟨⟨rfl, Nat.le_of_ble_eq_true rfl⟩, len_map _, rfl, rfl, hg144, by decide, (all1 rfl)⟩ ⟨rfl, rfl, rfl, rfl, rfl, rfl, rfl, trivial⟩ ?_
          refine any_val hτ [3] 6 rfl rfl rfl rfl rfl ?_
          refine any_valHP hτ [0, 1, 2, 4, 5, 6, 7] 7 rfl rfl rfl rfl ⟨rfl, rfl, rfl, rfl, rfl, rfl, rfl, trivial⟩ ?_
          refine any_done mixed (by kernel_rfl) ?_
          refine aw_weak (weak_ofP [0, 1, 2, 3, 4, 5, 6] (l := [(0, .d (.str (bstr s_))), (2, .ptr 0 0), (5, .ptr 3 0), (6, .ptr 6 0), (8, .d (.int .i64 v129))]) (objs := [.box [.d (.cx .f32 (0 : Nat) (0 : Nat)), .d (.cx .f32 (0 : Nat) (0 : Nat)), .d (.cx .f32 (0 : Nat) (0 : Nat)), .row 1 v84.length 0 v84.length, .row 2 v85.length 0 v85.length], .row 8 (v84.map eSBus), .row 5 (v85.map eSTie), .box [.d (.cx .f32 x59.1.A.re x59.1.A.im), .d (.cx .f32 x59.1.B.re x59.1.B.im), .d (.cx .f32 x59.1.C.re x59.1.C.im), .row 4 v86.length 0 v86.length, .row 5 ((v125 ++ [x143.1]).length) 0 ((v125 ++ [x143.1]).length)], .row 8 (v86.map eSBus), .row 5 ((v125 ++ [x143.1]).map eSTie), .box [.d (.str (bstr x143.2.text)), .d (.int .i64 x143.2.at_), .d (.bool x143.2.fine)]]) rfl (by simp) rfl (by repeat' first | exact trivial | refine ⟨?_, ?_⟩) ⟨rfl, trivial, rfl, trivial, rfl, trivial, rfl, trivial, rfl, trivial, trivial⟩) ?_
          refine aw_region ?_
          refine awl_val hτ rfl rfl rfl ?_
          refine awl_val hτ rfl rfl rfl ?_
          refine awl_val hτ rfl rfl rfl ?_
          refine awl_nil ?_
          exact ⟨(m139, (v125 ++ [x143.1]), x143.2.text, x143.2.at_, x143.2.fine, (w64 (v129 - (1 : Int)))), h, Nat.lt_succ_self m139, (weak_ofP [0, 1, 2, 3, 4, 5, 6] (l := [(0, .d (.str (bstr s_))), (2, .ptr 0 0), (5, .ptr 3 0), (6, .ptr 6 0), (8, .d (.int .i64 (w64 (v129 - (1 : Int)))))]) (objs := [.box [.d (.cx .f32 (0 : Nat) (0 : Nat)), .d (.cx .f32 (0 : Nat) (0 : Nat)), .d (.cx .f32 (0 : Nat) (0 : Nat)), .row 1 v84.length 0 v84.length, .row 2 v85.length 0 v85.length], .row 8 (v84.map eSBus), .row 5 (v85.map eSTie), .box [.d (.cx .f32 x59.1.A.re x59.1.A.im), .d (.cx .f32 x59.1.B.re x59.1.B.im), .d (.cx .f32 x59.1.C.re x59.1.C.im), .row 4 v86.length 0 v86.length, .row 5 ((v125 ++ [x143.1]).length) 0 ((v125 ++ [x143.1]).length)], .row 8 (v86.map eSBus), .row 5 ((v125 ++ [x143.1]).map eSTie), .box [.d (.str (bstr x143.2.text)), .d (.int .i64 x143.2.at_), .d (.bool x143.2.fine)]]) rfl (by simp) rfl (by repeat' first | exact trivial | refine ⟨?_, ?_⟩) ⟨rfl, trivial, rfl, trivial, rfl, trivial, rfl, trivial, rfl, trivial, trivial⟩)⟩
        · refine aw_seq ?_
          refine aw_hk1 (ι := Bool) (fun v148 => St.of [(0, .d (.str (bstr s_))), (2, .ptr 0 0), (5, .ptr 3 0), (6, .ptr 6 0), (8, .d (.int .i64 v129)), (57, .d (.bool v148))] [.box [.d (.cx .f32 (0 : Nat) (0 : Nat)), .d (.cx .f32 (0 : Nat) (0 : Nat)), .d (.cx .f32 (0 : Nat) (0 : Nat)), .row 1 v84.length 0 v84.length, .row 2 v85.length 0 v85.length], .row 8 (v84.map eSBus), .row 5 (v85.map eSTie), .box [.d (.cx .f32 x59.1.A.re x59.1.A.im), .d (.cx .f32 x59.1.B.re x59.1.B.im), .d (.cx .f32 x59.1.C.re x59.1.C.im), .row 4 v86.length 0 v86.length, .row 5 v125.length 0 v125.length], .row 8 (v86.map eSBus), .row 5 (v125.map eSTie), .box [.d (.str (bstr v126)), .d (.int .i64 v127), .d (.bool v128)]] f33.ntmps 0) (fun v148 => m_spec_l10Begin_j6 n s_ x59 v86 (m_spec_l10Begin_l4 n s_ x59 v86 m139) v125 v126 v127 v128 v129 v148 = some r) ?_ (fun hk150 => ?_)
          · rintro v148 h
            replace h : m_spec_l10Begin_j6 n s_ x59 v86 (m_spec_l10Begin_l4 n s_ x59 v86 m139) v125 v126 v127 v128 v129 v148 = some r := h
            unfold m_spec_l10Begin_j6 at h
            refine aw_cond rfl (fun hc149 => ?_) (fun hc149 => ?_)
            · have h := if_bt h hc149
              refine aw_skip ?_
              refine aw_weak (weak_ofP [0, 1, 2, 3, 4, 5, 6] (l := [(0, .d (.str (bstr s_))), (2, .ptr 0 0), (5, .ptr 3 0), (6, .ptr 6 0), (8, .d (.int .i64 v129))]) (objs := [.box [.d (.cx .f32 (0 : Nat) (0 : Nat)), .d (.cx .f32 (0 : Nat) (0 : Nat)), .d (.cx .f32 (0 : Nat) (0 : Nat)), .row 1 v84.length 0 v84.length, .row 2 v85.length 0 v85.length], .row 8 (v84.map eSBus), .row 5 (v85.map eSTie), .box [.d (.cx .f32 x59.1.A.re x59.1.A.im), .d (.cx .f32 x59.1.B.re x59.1.B.im), .d (.cx .f32 x59.1.C.re x59.1.C.im), .row 4 v86.length 0 v86.length, .row 5 v125.length 0 v125.length], .row 8 (v86.map eSBus), .row 5 (v125.map eSTie), .box [.d (.str (bstr v126)), .d (.int .i64 v127), .d (.bool v128)]]) rfl (by simp) rfl (by repeat' first | exact trivial | refine ⟨?_, ?_⟩) ⟨rfl, trivial, rfl, trivial, rfl, trivial, rfl, trivial, rfl, trivial, trivial⟩) ?_
              exact hk145 () h
            · have h := if_bf h hc149
              refine aw_exit ?_
              refine aw_weak (weak_ofP [0, 1, 2, 3, 4, 5, 6] (l := [(0, .d (.str (bstr s_))), (2, .ptr 0 0), (5, .ptr 3 0), (6, .ptr 6 0)]) (objs := [.box [.d (.cx .f32 (0 : Nat) (0 : Nat)), .d (.cx .f32 (0 : Nat) (0 : Nat)), .d (.cx .f32 (0 : Nat) (0 : Nat)), .row 1 v84.length 0 v84.length, .row 2 v85.length 0 v85.length], .row 8 (v84.map eSBus), .row 5 (v85.map eSTie), .box [.d (.cx .f32 x59.1.A.re x59.1.A.im), .d (.cx .f32 x59.1.B.re x59.1.B.im), .d (.cx .f32 x59.1.C.re x59.1.C.im), .row 4 v86.length 0 v86.length, .row 5 v125.length 0 v125.length], .row 8 (v86.map eSBus), .row 5 (v125.map eSTie), .box [.d (.str (bstr v126)), .d (.int .i64 v127), .d (.bool v128)]]) rfl (by simp) rfl (by repeat' first | exact trivial | refine ⟨?_, ?_⟩) ⟨rfl, trivial, rfl, trivial, rfl, trivial, rfl, trivial, trivial⟩) ?_
              exact hk119 (v125, v126, v127, v128) h
          · refine aw_seq ?_
            refine aw_region ?_
            refine awl_val hτ rfl rfl rfl ?_
            refine awl_val hτ rfl rfl rfl ?_
            refine awl_val hτ rfl rfl rfl ?_
            refine awl_split 52 rfl (fun hb151 => ?_) (fun hb151 => ?_)
            · have h := if_t h hb151
              refine awl_val hτ rfl rfl rfl ?_
              refine awl_val hτ rfl rfl rfl ?_
              refine awl_val hτ rfl rfl rfl ?_
              refine awl_val hτ rfl rfl rfl ?_
              refine awl_val hτ rfl rfl rfl ?_
              refine awl_nil ?_
              refine aw_weak (weak_ofP [0, 1, 2, 3, 4, 5, 6] (l := [(0, .d (.str (bstr s_))), (2, .ptr 0 0), (5, .ptr 3 0), (6, .ptr 6 0), (8, .d (.int .i64 v129)), (57, .d (.bool v128))]) (objs := [.box [.d (.cx .f32 (0 : Nat) (0 : Nat)), .d (.cx .f32 (0 : Nat) (0 : Nat)), .d (.cx .f32 (0 : Nat) (0 : Nat)), .row 1 v84.length 0 v84.length, .row 2 v85.length 0 v85.length], .row 8 (v84.map eSBus), .row 5 (v85.map eSTie), .box [.d (.cx .f32 x59.1.A.re x59.1.A.im), .d (.cx .f32 x59.1.B.re x59.1.B.im), .d (.cx .f32 x59.1.C.re x59.1.C.im), .row 4 v86.length 0 v86.length, .row 5 v125.length 0 v125.length], .row 8 (v86.map eSBus), .row 5 (v125.map eSTie), .box [.d (.str (bstr v126)), .d (.int .i64 v127), .d (.bool v128)]]) rfl (by simp) rfl (by repeat' first | exact trivial | refine ⟨?_, ?_⟩) ⟨rfl, trivial, rfl, trivial, rfl, trivial, rfl, trivial, rfl, trivial, rfl, trivial, trivial⟩) ?_
              exact hk150 v128 h
            · have h := if_f h hb151
              refine awl_skip rfl rfl ?_
              refine awl_skip rfl rfl ?_
              refine awl_skip rfl rfl ?_
              refine awl_skip rfl rfl ?_
              refine awl_val hτ rfl rfl rfl ?_
              refine awl_nil ?_
              refine aw_weak (weak_ofP [0, 1, 2, 3, 4, 5, 6] (l := [(0, .d (.str (bstr s_))), (2, .ptr 0 0), (5, .ptr 3 0), (6, .ptr 6 0), (8, .d (.int .i64 v129)), (57, .d (.bool false))]) (objs := [.box [.d (.cx .f32 (0 : Nat) (0 : Nat)), .d (.cx .f32 (0 : Nat) (0 : Nat)), .d (.cx .f32 (0 : Nat) (0 : Nat)), .row 1 v84.length 0 v84.length, .row 2 v85.length 0 v85.length], .row 8 (v84.map eSBus), .row 5 (v85.map eSTie), .box [.d (.cx .f32 x59.1.A.re x59.1.A.im), .d (.cx .f32 x59.1.B.re x59.1.B.im), .d (.cx .f32 x59.1.C.re x59.1.C.im), .row 4 v86.length 0 v86.length, .row 5 v125.length 0 v125.length], .row 8 (v86.map eSBus), .row 5 (v125.map eSTie), .box [.d (.str (bstr v126)), .d (.int .i64 v127), .d (.bool v128)]]) rfl (by simp) rfl (by repeat' first | exact trivial | refine ⟨?_, ?_⟩) ⟨rfl, trivial, rfl, trivial, rfl, trivial, rfl, trivial, rfl, trivial, rfl, trivial, trivial⟩) ?_
              exact hk150 false h
    · refine aw_seq ?_
      refine aw_seq ?_
      refine aw_weak (weak_ofP [0, 1, 2, 3] (l := [(0, .d (.str (bstr s_))), (2, .ptr 0 0), (5, .ptr 1 0), (6, .ptr 3 0)]) (objs := [.box [.d (.cx .f32 (0 : Nat) (0 : Nat)), .d (.cx .f32 (0 : Nat) (0 : Nat)), .d (.cx .f32 (0 : Nat) (0 : Nat)), .d (.nils), .d (.nils)], .box [.d (.cx .f32 x59.1.A.re x59.1.A.im), .d (.cx .f32 x59.1.B.re x59.1.B.im), .d (.cx .f32 x59.1.C.re x59.1.C.im), .d (.nils), .row 2 (([] : List STie).length) 0 (([] : List STie).length)], .row 5 (([] : List STie).map eSTie), .box [.d (.str (bstr x59.2.text)), .d (.int .i64 x59.2.at_), .d (.bool x59.2.fine)]]) rfl (by simp) rfl (by repeat' first | exact trivial | refine ⟨?_, ?_⟩) ⟨rfl, trivial, rfl, trivial, rfl, trivial, rfl, trivial, trivial⟩) ?_
      refine aw_region ?_
      refine awl_val hτ rfl rfl rfl ?_
      refine bnd_elim h fun x153 hx153 h => ?_
      refine awl_callP hτ false [3] rfl rfl rfl (enterOk func73 rfl rfl) rfl rfl (by simp) ⟨trivial, trivial, trivial⟩ (by repeat' first | exact trivial | refine ⟨?_, ?_⟩) (spec_l10Eyes_word_ok n x59.2 (1 : Int) hx153) ?_
      rintro r0 o0 n0 ⟨rfl, rfl, rfl⟩ -
      refine awl_val hτ rfl rfl rfl ?_
      refine awl_nil ?_
      refine aw_block ?_
      refine aw_loop (ι := Nat × List SBus × List STie × List SBus × Str × Int × Bool × Int) (fun (m177, v159, v160, v161, v162, v163, v164, v165) => St.of [(0, .d (.str (bstr s_))), (2, .ptr 0 0), (5, .ptr 3 0), (6, .ptr 6 0), (7, .d (.int .i64 v165))] [.box [.d (.cx .f32 (0 : Nat) (0 : Nat)), .d (.cx .f32 (0 : Nat) (0 : Nat)), .d (.cx .f32 (0 : Nat) (0 : Nat)), .row 1 v159.length 0 v159.length, .row 2 v160.length 0 v160.length], .row 8 (v159.map eSBus), .row 5 (v160.map eSTie), .box [.d (.cx .f32 x59.1.A.re x59.1.A.im), .d (.cx .f32 x59.1.B.re x59.1.B.im), .d (.cx .f32 x59.1.C.re x59.1.C.im), .row 4 v161.length 0 v161.length, .row 5 (([] : List STie).length) 0 (([] : List STie).length)], .row 8 (v161.map eSBus), .row 5 (([] : List STie).map eSTie), .box [.d (.str (bstr v162)), .d (.int .i64 v163), .d (.bool v164)]] f33.ntmps 0) (fun (m177, v159, v160, v161, v162, v163, v164, v165) => m_spec_l10Begin_l7 n s_ x59 m177 v159 v160 v161 v162 v163 v164 v165 = some r) (fun x => x.1) (n, ([] : List SBus), ([] : List STie), ([] : List SBus), x153.2.text, x153.2.at_, x153.2.fine, x153.1) h (Weak.trans (Weak.trans (weak_ofP [0, 1, 2, 3] (l := [(0, .d (.str (bstr s_))), (2, .ptr 0 0), (5, .ptr 1 0), (6, .ptr 3 0), (7, .d (.int .i64 x153.1))]) (objs := [.box [.d (.cx .f32 (0 : Nat) (0 : Nat)), .d (.cx .f32 (0 : Nat) (0 : Nat)), .d (.cx .f32 (0 : Nat) (0 : Nat)), .d (.nils), .d (.nils)], .box [.d (.cx .f32 x59.1.A.re x59.1.A.im), .d (.cx .f32 x59.1.B.re x59.1.B.im), .d (.cx .f32 x59.1.C.re x59.1.C.im), .d (.nils), .row 2 (([] : List STie).length) 0 (([] : List STie).length)], .row 5 (([] : List STie).map eSTie), .box [.d (.str (bstr x153.2.text)), .d (.int .i64 x153.2.at_), .d (.bool x153.2.fine)]]) rfl (by simp) rfl (by repeat' first | exact trivial | refine ⟨?_, ?_⟩) ⟨rfl, trivial, rfl, trivial, rfl, trivial, rfl, trivial, rfl, trivial, trivial⟩) (weak_relax [8, 5, 8] (l' := [(0, .d (.str (bstr s_))), (2, .ptr 0 0), (5, .ptr 1 0), (6, .ptr 3 0), (7, .d (.int .i64 x153.1))]) (objs' := [.box [.d (.cx .f32 (0 : Nat) (0 : Nat)), .d (.cx .f32 (0 : Nat) (0 : Nat)), .d (.cx .f32 (0 : Nat) (0 : Nat)), .row 4 (([] : List SBus).length) 0 (([] : List SBus).length), .row 5 (([] : List STie).length) 0 (([] : List STie).length)], .box [.d (.cx .f32 x59.1.A.re x59.1.A.im), .d (.cx .f32 x59.1.B.re x59.1.B.im), .d (.cx .f32 x59.1.C.re x59.1.C.im), .row 6 (([] : List SBus).length) 0 (([] : List SBus).length), .row 2 (([] : List STie).length) 0 (([] : List STie).length)], .row 5 (([] : List STie).map eSTie), .box [.d (.str (bstr x153.2.text)), .d (.int .i64 x153.2.at_), .d (.bool x153.2.fine)]]) (.cons (.c (.refl _)) (.cons (.c (.refl _)) (.cons (.c (.refl _)) (.cons (.c (.refl _)) (.cons (.c (.refl _)) .nil))))) (.cons (.box (.cons (.refl _) (.cons (.refl _) (.cons (.refl _) (.cons (.ghost ⟨Nat.le_of_ble_eq_true rfl, Nat.le_of_ble_eq_true rfl⟩) (.cons (.ghost ⟨Nat.le_of_ble_eq_true rfl, Nat.le_of_ble_eq_true rfl⟩) .nil)))))) (.cons (.box (.cons (.refl _) (.cons (.refl _) (.cons (.refl _) (.cons (.ghost ⟨Nat.le_of_ble_eq_true rfl, Nat.le_of_ble_eq_true rfl⟩) (.cons (.refl _) .nil)))))) (.cons (.refl _) (.cons (.refl _) .nil)))))) (weak_ofP [0, 4, 5, 1, 6, 2, 3] (l := [(0, .d (.str (bstr s_))), (2, .ptr 0 0), (5, .ptr 3 0), (6, .ptr 6 0), (7, .d (.int .i64 x153.1))]) (objs := [.box [.d (.cx .f32 (0 : Nat) (0 : Nat)), .d (.cx .f32 (0 : Nat) (0 : Nat)), .d (.cx .f32 (0 : Nat) (0 : Nat)), .row 1 (([] : List SBus).length) 0 (([] : List SBus).length), .row 2 (([] : List STie).length) 0 (([] : List STie).length)], .row 8 (([] : List SBus).map eSBus), .row 5 (([] : List STie).map eSTie), .box [.d (.cx .f32 x59.1.A.re x59.1.A.im), .d (.cx .f32 x59.1.B.re x59.1.B.im), .d (.cx .f32 x59.1.C.re x59.1.C.im), .row 4 (([] : List SBus).length) 0 (([] : List SBus).length), .row 5 (([] : List STie).length) 0 (([] : List STie).length)], .row 8 (([] : List SBus).map eSBus), .row 5 (([] : List STie).map eSTie), .box [.d (.str (bstr x153.2.text)), .d (.int .i64 x153.2.at_), .d (.bool x153.2.fine)]]) rfl (by simp) rfl (by repeat' first | exact trivial | refine ⟨?_, ?_⟩) ⟨rfl, trivial, rfl, trivial, rfl, trivial, rfl, trivial, rfl, trivial, trivial⟩)) ?_
      rintro ⟨m177, v159, v160, v161, v162, v163, v164, v165⟩ h
      replace h : m_spec_l10Begin_l7 n s_ x59 m177 v159 v160 v161 v162 v163 v164 v165 = some r := h
      rcases m177 with _ | m177
      · rw [m_spec_l10Begin_l7] at h; cases h
      rw [m_spec_l10Begin_l7] at h
      refine aw_hk1 (ι := Unit) (fun _ => St.of [(0, .d (.str (bstr s_))), (2, .ptr 0 0), (5, .ptr 3 0), (6, .ptr 6 0), (7, .d (.int .i64 v165))] [.box [.d (.cx .f32 (0 : Nat) (0 : Nat)), .d (.cx .f32 (0 : Nat) (0 : Nat)), .d (.cx .f32 (0 : Nat) (0 : Nat)), .row 1 v159.length 0 v159.length, .row 2 v160.length 0 v160.length], .row 8 (v159.map eSBus), .row 5 (v160.map eSTie), .box [.d (.cx .f32 x59.1.A.re x59.1.A.im), .d (.cx .f32 x59.1.B.re x59.1.B.im), .d (.cx .f32 x59.1.C.re x59.1.C.im), .row 4 v161.length 0 v161.length, .row 5 (([] : List STie).length) 0 (([] : List STie).length)], .row 8 (v161.map eSBus), .row 5 (([] : List STie).map eSTie), .box [.d (.str (bstr v162)), .d (.int .i64 v163), .d (.bool v164)]] f33.ntmps 0) (fun _ => m_spec_l10Begin_j8 n (m_spec_l10Begin_l7 n s_ x59 m177) v159 v160 v161 v162 v163 v164 v165 = some r) ?_ (fun hk183 => ?_)
      · rintro ⟨⟩ h
        replace h : m_spec_l10Begin_j8 n (m_spec_l10Begin_l7 n s_ x59 m177) v159 v160 v161 v162 v163 v164 v165 = some r := h
        unfold m_spec_l10Begin_j8 at h
        refine aw_seq ?_
        refine aw_block ?_
        refine any_start ?_
        refine any_val hτ [3] 0 rfl rfl rfl rfl rfl ?_
        refine any_val hτ [3] 1 rfl rfl rfl rfl rfl ?_
        refine any_val hτ [3] 2 rfl rfl rfl rfl rfl ?_
        refine any_val hτ [] 3 rfl rfl rfl rfl rfl ?_
        refine bnd_elim h fun x181 hx181 h => ?_
        refine any_callP hτ false [6] [0, 1, 2, 3, 4, 5] 4 rfl rfl rfl rfl (enterOk func74 rfl rfl) rfl rfl (by simp) ⟨trivial, trivial⟩ (by repeat' first | exact trivial | refine ⟨?_, ?_⟩) (spec_l10Eyes_bus_ok n (SL10Eyes.mk v162 v163 v164) hx181) ⟨rfl, rfl, rfl, rfl, rfl, rfl, trivial⟩ ?_
        refine any_valHP hτ [0, 1, 2, 3, 4, 5, 6] 5 rfl rfl rfl rfl ⟨rfl, rfl, rfl, rfl, rfl, rfl, rfl, trivial⟩ ?_
        refine grd_elim h fun hg182 h => ?_
        refine any_needHP hτ [0, 1, 2, 3, 5, 6, 7] 6 rfl rfl rfl (Eq.trans rfl (or_append (f := eSBus) v161 [x181.1] rfl)) ⟨⟨rfl, Nat.le_of_ble_eq_true rfl⟩, len_map _, rfl, rfl, hg182, by decide, (all1 rfl)⟩ ⟨rfl, rfl, rfl, rfl, rfl, rfl, rfl, trivial⟩ ?_
        refine any_val hτ [3] 7 rfl rfl rfl rfl rfl ?_
        refine any_val hτ [3] 8 rfl rfl rfl rfl rfl ?_
        refine any_valHP hτ [0, 1, 2, 4, 5, 6, 7] 9 rfl rfl rfl rfl ⟨rfl, rfl, rfl, rfl, rfl, rfl, rfl, trivial⟩ ?_
        refine any_done mixed (by kernel_rfl) ?_
        refine aw_weak (weak_ofP [0, 1, 2, 3, 4, 5, 6] (l := [(0, .d (.str (bstr s_))), (2, .ptr 0 0), (5, .ptr 3 0), (6, .ptr 6 0), (7, .d (.int .i64 v165))]) (objs := [.box [.d (.cx .f32 (0 : Nat) (0 : Nat)), .d (.cx .f32 (0 : Nat) (0 : Nat)), .d (.cx .f32 (0 : Nat) (0 : Nat)), .row 1 v159.length 0 v159.length, .row 2 v160.length 0 v160.length], .row 8 (v159.map eSBus), .row 5 (v160.map eSTie), .box [.d (.cx .f32 x59.1.A.re x59.1.A.im), .d (.cx .f32 x59.1.B.re x59.1.B.im), .d (.cx .f32 x59.1.C.re x59.1.C.im), .row 4 ((v161 ++ [x181.1]).length) 0 ((v161 ++ [x181.1]).length), .row 5 (([] : List STie).length) 0 (([] : List STie).length)], .row 8 ((v161 ++ [x181.1]).map eSBus), .row 5 (([] : List STie).map eSTie), .box [.d (.str (bstr x181.2.text)), .d (.int .i64 x181.2.at_), .d (.bool x181.2.fine)]]) rfl (by simp) rfl (by repeat' first | exact trivial | refine ⟨?_, ?_⟩) ⟨rfl, trivial, rfl, trivial, rfl, trivial, rfl, trivial, rfl, trivial, trivial⟩) ?_
        refine aw_region ?_
        refine awl_val hτ rfl rfl rfl ?_
        refine awl_val hτ rfl rfl rfl ?_
        refine awl_val hτ rfl rfl rfl ?_
        refine awl_nil ?_
        exact ⟨(m177, v159, v160, (v161 ++ [x181.1]), x181.2.text, x181.2.at_, x181.2.fine, (w64 (v165 - (1 : Int)))), h, Nat.lt_succ_self m177, (weak_ofP [0, 1, 2, 3, 4, 5, 6] (l := [(0, .d (.str (bstr s_))), (2, .ptr 0 0), (5, .ptr 3 0), (6, .ptr 6 0), (7, .d (.int .i64 (w64 (v165 - (1 : Int)))))]) (objs := [.box [.d (.cx .f32 (0 : Nat) (0 : Nat)), .d (.cx .f32 (0 : Nat) (0 : Nat)), .d (.cx .f32 (0 : Nat) (0 : Nat)), .row 1 v159.length 0 v159.length, .row 2 v160.length 0 v160.length], .row 8 (v159.map eSBus), .row 5 (v160.map eSTie), .box [.d (.cx .f32 x59.1.A.re x59.1.A.im), .d (.cx .f32 x59.1.B.re x59.1.B.im), .d (.cx .f32 x59.1.C.re x59.1.C.im), .row 4 ((v161 ++ [x181.1]).length) 0 ((v161 ++ [x181.1]).length), .row 5 (([] : List STie).length) 0 (([] : List STie).length)], .row 8 ((v161 ++ [x181.1]).map eSBus), .row 5 (([] : List STie).map eSTie), .box [.d (.str (bstr x181.2.text)), .d (.int .i64 x181.2.at_), .d (.bool x181.2.fine)]]) rfl (by simp) rfl (by repeat' first | exact trivial | refine ⟨?_, ?_⟩) ⟨rfl, trivial, rfl, trivial, rfl, trivial, rfl, trivial, rfl, trivial, trivial⟩)⟩
      · refine aw_seq ?_
        refine aw_hk1 (ι := Bool) (fun v186 => St.of [(0, .d (.str (bstr s_))), (2, .ptr 0 0), (5, .ptr 3 0), (6, .ptr 6 0), (7, .d (.int .i64 v165)), (36, .d (.bool v186))] [.box [.d (.cx .f32 (0 : Nat) (0 : Nat)), .d (.cx .f32 (0 : Nat) (0 : Nat)), .d (.cx .f32 (0 : Nat) (0 : Nat)), .row 1 v159.length 0 v159.length, .row 2 v160.length 0 v160.length], .row 8 (v159.map eSBus), .row 5 (v160.map eSTie), .box [.d (.cx .f32 x59.1.A.re x59.1.A.im), .d (.cx .f32 x59.1.B.re x59.1.B.im), .d (.cx .f32 x59.1.C.re x59.1.C.im), .row 4 v161.length 0 v161.length, .row 5 (([] : List STie).length) 0 (([] : List STie).length)], .row 8 (v161.map eSBus), .row 5 (([] : List STie).map eSTie), .box [.d (.str (bstr v162)), .d (.int .i64 v163), .d (.bool v164)]] f33.ntmps 0) (fun v186 => m_spec_l10Begin_j9 n s_ x59 (m_spec_l10Begin_l7 n s_ x59 m177) v159 v160 v161 v162 v163 v164 v165 v186 = some r) ?_ (fun hk188 => ?_)
        · rintro v186 h
          replace h : m_spec_l10Begin_j9 n s_ x59 (m_spec_l10Begin_l7 n s_ x59 m177) v159 v160 v161 v162 v163 v164 v165 v186 = some r := h
          unfold m_spec_l10Begin_j9 at h
          refine aw_cond rfl (fun hc187 => ?_) (fun hc187 => ?_)
          · have h := if_bt h hc187
            refine aw_skip ?_
            refine aw_weak (weak_ofP [0, 1, 2, 3, 4, 5, 6] (l := [(0, .d (.str (bstr s_))), (2, .ptr 0 0), (5, .ptr 3 0), (6, .ptr 6 0), (7, .d (.int .i64 v165))]) (objs := [.box [.d (.cx .f32 (0 : Nat) (0 : Nat)), .d (.cx .f32 (0 : Nat) (0 : Nat)), .d (.cx .f32 (0 : Nat) (0 : Nat)), .row 1 v159.length 0 v159.length, .row 2 v160.length 0 v160.length], .row 8 (v159.map eSBus), .row 5 (v160.map eSTie), .box [.d (.cx .f32 x59.1.A.re x59.1.A.im), .d (.cx .f32 x59.1.B.re x59.1.B.im), .d (.cx .f32 x59.1.C.re x59.1.C.im), .row 4 v161.length 0 v161.length, .row 5 (([] : List STie).length) 0 (([] : List STie).length)], .row 8 (v161.map eSBus), .row 5 (([] : List STie).map eSTie), .box [.d (.str (bstr v162)), .d (.int .i64 v163), .d (.bool v164)]]) rfl (by simp) rfl (by repeat' first | exact trivial | refine ⟨?_, ?_⟩) ⟨rfl, trivial, rfl, trivial, rfl, trivial, rfl, trivial, rfl, trivial, trivial⟩) ?_
            exact hk183 () h
          · have h := if_bf h hc187
            refine aw_exit ?_
            refine aw_weak (weak_ofP [0, 1, 2, 3, 4, 5, 6] (l := [(0, .d (.str (bstr s_))), (2, .ptr 0 0), (5, .ptr 3 0), (6, .ptr 6 0)]) (objs := [.box [.d (.cx .f32 (0 : Nat) (0 : Nat)), .d (.cx .f32 (0 : Nat) (0 : Nat)), .d (.cx .f32 (0 : Nat) (0 : Nat)), .row 1 v159.length 0 v159.length, .row 2 v160.length 0 v160.length], .row 8 (v159.map eSBus), .row 5 (v160.map eSTie), .box [.d (.cx .f32 x59.1.A.re x59.1.A.im), .d (.cx .f32 x59.1.B.re x59.1.B.im), .d (.cx .f32 x59.1.C.re x59.1.C.im), .row 4 v161.length 0 v161.length, .row 5 (([] : List STie).length) 0 (([] : List STie).length)], .row 8 (v161.map eSBus), .row 5 (([] : List STie).map eSTie), .box [.d (.str (bstr v162)), .d (.int .i64 v163), .d (.bool v164)]]) rfl (by simp) rfl (by repeat' first | exact trivial | refine ⟨?_, ?_⟩) ⟨rfl, trivial, rfl, trivial, rfl, trivial, rfl, trivial, trivial⟩) ?_
            exact hk152 (v159, v160, v161, v162, v163, v164) h
        · refine aw_seq ?_
          refine aw_region ?_
          refine awl_val hτ rfl rfl rfl ?_
          refine awl_val hτ rfl rfl rfl ?_
          refine awl_val hτ rfl rfl rfl ?_
          refine awl_split 31 rfl (fun hb189 => ?_) (fun hb189 => ?_)
          · have h := if_t h hb189
            refine awl_val hτ rfl rfl rfl ?_
            refine awl_val hτ rfl rfl rfl ?_
            refine awl_val hτ rfl rfl rfl ?_
            refine awl_val hτ rfl rfl rfl ?_
            refine awl_val hτ rfl rfl rfl ?_
            refine awl_nil ?_
            refine aw_weak (weak_ofP [0, 1, 2, 3, 4, 5, 6] (l := [(0, .d (.str (bstr s_))), (2, .ptr 0 0), (5, .ptr 3 0), (6, .ptr 6 0), (7, .d (.int .i64 v165)), (36, .d (.bool v164))]) (objs := [.box [.d (.cx .f32 (0 : Nat) (0 : Nat)), .d (.cx .f32 (0 : Nat) (0 : Nat)), .d (.cx .f32 (0 : Nat) (0 : Nat)), .row 1 v159.length 0 v159.length, .row 2 v160.length 0 v160.length], .row 8 (v159.map eSBus), .row 5 (v160.map eSTie), .box [.d (.cx .f32 x59.1.A.re x59.1.A.im), .d (.cx .f32 x59.1.B.re x59.1.B.im), .d (.cx .f32 x59.1.C.re x59.1.C.im), .row 4 v161.length 0 v161.length, .row 5 (([] : List STie).length) 0 (([] : List STie).length)], .row 8 (v161.map eSBus), .row 5 (([] : List STie).map eSTie), .box [.d (.str (bstr v162)), .d (.int .i64 v163), .d (.bool v164)]]) rfl (by simp) rfl (by repeat' first | exact trivial | refine ⟨?_, ?_⟩) ⟨rfl, trivial, rfl, trivial, rfl, trivial, rfl, trivial, rfl, trivial, rfl, trivial, trivial⟩) ?_
            exact hk188 v164 h
          · have h := if_f h hb189
            refine awl_skip rfl rfl ?_
            refine awl_skip rfl rfl ?_
            refine awl_skip rfl rfl ?_
            refine awl_skip rfl rfl ?_
            refine awl_val hτ rfl rfl rfl ?_
            refine awl_nil ?_
            refine aw_weak (weak_ofP [0, 1, 2, 3, 4, 5, 6] (l := [(0, .d (.str (bstr s_))), (2, .ptr 0 0), (5, .ptr 3 0), (6, .ptr 6 0), (7, .d (.int .i64 v165)), (36, .d (.bool false))]) (objs := [.box [.d (.cx .f32 (0 : Nat) (0 : Nat)), .d (.cx .f32 (0 : Nat) (0 : Nat)), .d (.cx .f32 (0 : Nat) (0 : Nat)), .row 1 v159.length 0 v159.length, .row 2 v160.length 0 v160.length], .row 8 (v159.map eSBus), .row 5 (v160.map eSTie), .box [.d (.cx .f32 x59.1.A.re x59.1.A.im), .d (.cx .f32 x59.1.B.re x59.1.B.im), .d (.cx .f32 x59.1.C.re x59.1.C.im), .row 4 v161.length 0 v161.length, .row 5 (([] : List STie).length) 0 (([] : List STie).length)], .row 8 (v161.map eSBus), .row 5 (([] : List STie).map eSTie), .box [.d (.str (bstr v162)), .d (.int .i64 v163), .d (.bool v164)]]) rfl (by simp) rfl (by repeat' first | exact trivial | refine ⟨?_, ?_⟩) ⟨rfl, trivial, rfl, trivial, rfl, trivial, rfl, trivial, rfl, trivial, rfl, trivial, trivial⟩) ?_
            exact hk188 false h
  · refine aw_seq ?_
    refine aw_hk1 (ι := Bool) (fun v194 => St.of [(0, .d (.str (bstr s_))), (2, .ptr 0 0), (5, .ptr 1 0), (18, .d (.bool v194))] [.box [.d (.cx .f32 (0 : Nat) (0 : Nat)), .d (.cx .f32 (0 : Nat) (0 : Nat)), .d (.cx .f32 (0 : Nat) (0 : Nat)), .d (.nils), .d (.nils)], .box [.d (.cx .f32 (0 : Nat) (0 : Nat)), .d (.cx .f32 (0 : Nat) (0 : Nat)), .d (.cx .f32 (0 : Nat) (0 : Nat)), .d (.nils), .row 2 (([] : List STie).length) 0 (([] : List STie).length)], .row 5 (([] : List STie).map eSTie)] f33.ntmps 0) (fun v194 => m_spec_l10Begin_j10 n s_ v194 = some r) ?_ (fun hk196 => ?_)
    · rintro v194 h
      replace h : m_spec_l10Begin_j10 n s_ v194 = some r := h
      unfold m_spec_l10Begin_j10 at h
      refine aw_cond rfl (fun hc195 => ?_) (fun hc195 => ?_)
      · have h := if_bt h hc195
        refine aw_seq ?_
        refine aw_region ?_
        refine awl_val hτ rfl rfl rfl ?_
        refine awl_valH hτ rfl rfl rfl ?_
        refine awl_val hτ rfl rfl rfl ?_
        refine awl_val hτ rfl rfl rfl ?_
        refine awl_nil ?_
        refine aw_weak (weak_ofP [0] (l := [(2, .ptr 0 0), (3, .d (.int .i64 (0 : Int))), (4, .d (.bool false))]) (objs := [.box [.d (.cx .f32 (0 : Nat) (0 : Nat)), .d (.cx .f32 (0 : Nat) (0 : Nat)), .d (.cx .f32 (0 : Nat) (0 : Nat)), .d (.nils), .d (.sl false (([] : List STie).map eSTie))]]) rfl (by simp) (mapO_cons (exO_box (mapO_cons rfl (mapO_cons rfl (mapO_cons rfl (mapO_cons rfl (mapO_cons (exC_view (f := eSTie) ([] : List STie) rfl rfl rfl) mapO_nil)))))) mapO_nil) ⟨⟨trivial, trivial, trivial, trivial, (exP_view (f := eSTie) ([] : List STie) rfl rfl rfl)⟩, trivial⟩ ⟨rfl, trivial, rfl, trivial, rfl, trivial, trivial⟩) ?_
        refine aw_weak (weak_relax [] (l' := [(2, .ptr 0 0), (3, .d (.int .i64 (0 : Int))), (4, .d (.bool false))]) (objs' := [.box [.d (.cx .f32 (0 : Nat) (0 : Nat)), .d (.cx .f32 (0 : Nat) (0 : Nat)), .d (.cx .f32 (0 : Nat) (0 : Nat)), .d (.sl false (([] : List SBus).map eSBus)), .d (.sl false (([] : List STie).map eSTie))]]) (.cons (.c (.refl _)) (.cons (.c (.refl _)) (.cons (.c (.refl _)) .nil))) (.cons (.box (.cons (.refl _) (.cons (.refl _) (.cons (.refl _) (.cons (.d .nil) (.cons (.refl _) .nil)))))) .nil)) ?_
        refine aw_ret ?_
        have hr := Option.some.inj h
        subst hr
        exact ret_objs (.inr rfl) [] (objs' := []) (new := []) rfl (by simp) (by simp) rfl (by repeat' first | exact trivial | refine ⟨?_, ?_⟩) rfl rfl (by repeat' first | exact trivial | refine ⟨?_, ?_⟩) (fun h => nomatch h) ⟨rfl, rfl, rfl⟩
      · have h := if_bf h hc195
        refine aw_skip ?_
        refine aw_weak (weak_ofP [0, 1, 2] (l := [(0, .d (.str (bstr s_))), (2, .ptr 0 0), (5, .ptr 1 0)]) (objs := [.box [.d (.cx .f32 (0 : Nat) (0 : Nat)), .d (.cx .f32 (0 : Nat) (0 : Nat)), .d (.cx .f32 (0 : Nat) (0 : Nat)), .d (.nils), .d (.nils)], .box [.d (.cx .f32 (0 : Nat) (0 : Nat)), .d (.cx .f32 (0 : Nat) (0 : Nat)), .d (.cx .f32 (0 : Nat) (0 : Nat)), .d (.nils), .row 2 (([] : List STie).length) 0 (([] : List STie).length)], .row 5 (([] : List STie).map eSTie)]) rfl (by simp) rfl (by repeat' first | exact trivial | refine ⟨?_, ?_⟩) ⟨rfl, trivial, rfl, trivial, rfl, trivial, trivial⟩) ?_
        exact hk190 () h
    · refine aw_seq ?_
      refine aw_weak (weak_ofP [0, 2, 1] (l := [(0, .d (.str (bstr s_))), (2, .ptr 0 0), (5, .ptr 1 0)]) (objs := [.box [.d (.cx .f32 (0 : Nat) (0 : Nat)), .d (.cx .f32 (0 : Nat) (0 : Nat)), .d (.cx .f32 (0 : Nat) (0 : Nat)), .d (.nils), .d (.nils)], .box [.d (.cx .f32 (0 : Nat) (0 : Nat)), .d (.cx .f32 (0 : Nat) (0 : Nat)), .d (.cx .f32 (0 : Nat) (0 : Nat)), .d (.nils), .row 2 (([] : List STie).length) 0 (([] : List STie).length)], .row 5 (([] : List STie).map eSTie)]) rfl (by simp) rfl (by repeat' first | exact trivial | refine ⟨?_, ?_⟩) ⟨rfl, trivial, rfl, trivial, rfl, trivial, trivial⟩) ?_
      refine aw_region ?_
      refine awl_val hτ rfl rfl rfl ?_
      refine awl_val hτ rfl rfl rfl ?_
      refine awl_val hτ rfl rfl rfl ?_
      refine awl_val hτ rfl rfl rfl ?_
      refine awl_split 14 rfl (fun hb197 => ?_) (fun hb197 => ?_)
      · have h := if_t h hb197
        refine awl_skip rfl rfl ?_
        refine awl_skip rfl rfl ?_
        refine awl_skip rfl rfl ?_
        refine awl_val hτ rfl rfl rfl ?_
        refine awl_nil ?_
        refine aw_weak (weak_ofP [0, 1, 2] (l := [(0, .d (.str (bstr s_))), (2, .ptr 0 0), (5, .ptr 1 0), (18, .d (.bool true))]) (objs := [.box [.d (.cx .f32 (0 : Nat) (0 : Nat)), .d (.cx .f32 (0 : Nat) (0 : Nat)), .d (.cx .f32 (0 : Nat) (0 : Nat)), .d (.nils), .d (.nils)], .box [.d (.cx .f32 (0 : Nat) (0 : Nat)), .d (.cx .f32 (0 : Nat) (0 : Nat)), .d (.cx .f32 (0 : Nat) (0 : Nat)), .d (.nils), .row 2 (([] : List STie).length) 0 (([] : List STie).length)], .row 5 (([] : List STie).map eSTie)]) rfl (by simp) rfl (by repeat' first | exact trivial | refine ⟨?_, ?_⟩) ⟨rfl, trivial, rfl, trivial, rfl, trivial, rfl, trivial, trivial⟩) ?_
        exact hk196 true h
      · have h := if_f h hb197
        refine awl_val hτ rfl rfl rfl ?_
        refine grd_elim h fun hg198 h => ?_
        refine awl_need hτ (v := .d (.str (bstr (sub s_ (0 : Int) (4 : Int))))) rfl rfl (Eq.trans rfl (or_ssub _ _ _)) hg198 ?_
        refine awl_val hτ (v := .d (.bool (!(decide ((sub s_ (0 : Int) (4 : Int)) = ([70, 68, 82, 49] : Str)))))) rfl rfl (or_sne _ _) ?_
        refine awl_val hτ rfl rfl rfl ?_
        refine awl_nil ?_
        refine aw_weak (weak_ofP [0, 1, 2] (l := [(0, .d (.str (bstr s_))), (2, .ptr 0 0), (5, .ptr 1 0), (18, .d (.bool (!(decide ((sub s_ (0 : Int) (4 : Int)) = ([70, 68, 82, 49] : Str))))))]) (objs := [.box [.d (.cx .f32 (0 : Nat) (0 : Nat)), .d (.cx .f32 (0 : Nat) (0 : Nat)), .d (.cx .f32 (0 : Nat) (0 : Nat)), .d (.nils), .d (.nils)], .box [.d (.cx .f32 (0 : Nat) (0 : Nat)), .d (.cx .f32 (0 : Nat) (0 : Nat)), .d (.cx .f32 (0 : Nat) (0 : Nat)), .d (.nils), .row 2 (([] : List STie).length) 0 (([] : List STie).length)], .row 5 (([] : List STie).map eSTie)]) rfl (by simp) rfl (by repeat' first | exact trivial | refine ⟨?_, ?_⟩) ⟨rfl, trivial, rfl, trivial, rfl, trivial, rfl, trivial, trivial⟩) ?_
        exact hk196 (!(decide ((sub s_ (0 : Int) (4 : Int)) = ([70, 68, 82, 49] : Str)))) h

def m_spec_LoadGrid_j1 (n : Nat) (x4 : SGrid × Int × Bool) : Option (SGrid × Bool) :=
  some (x4.1, true)
def m_spec_LoadGrid_j2 (n : Nat) (x4 : SGrid × Int × Bool) (v10 : Bool) : Option (SGrid × Bool) :=
  if v10 = true then
    some ((SGrid.mk (SFeeder.mk (SPhases.mk (Cx.mk (0 : Nat) (0 : Nat)) (Cx.mk (0 : Nat) (0 : Nat)) (Cx.mk (0 : Nat) (0 : Nat))) ([] : List SBus)) ([] : List STie)), false)
  else
    m_spec_LoadGrid_j1 n x4
def m_spec_LoadGrid (n : Nat) (s_ : Str) : Option (SGrid × Bool) :=
  (m_spec_l10Begin n s_).bind fun x4 =>
  if x4.2.2 = true then
    m_spec_LoadGrid_j2 n x4 (!(decide (x4.2.1 = (s_.length : Int))))
  else
    m_spec_LoadGrid_j2 n x4 true
theorem spec_LoadGrid_ok (n : Nat) (s_ : Str) {r : SGrid × Bool} (h : m_spec_LoadGrid n s_ = some r) : ACall prog false 7 [.d (.str (bstr s_))] [] (fun v o new => v = .tup [.agg [.d (.cx .f32 r.1.Feeder.Source.A.re r.1.Feeder.Source.A.im), .d (.cx .f32 r.1.Feeder.Source.B.re r.1.Feeder.Source.B.im), .d (.cx .f32 r.1.Feeder.Source.C.re r.1.Feeder.Source.C.im), .d (.sl false (r.1.Feeder.Buses.map eSBus)), .d (.sl false (r.1.Ties.map eSTie))], .d (.bool r.2)] ∧ o = [] ∧ new = []) := by
  refine acall_of_aw hτ func7 rfl (by simp) (by simp) ?_
  unfold m_spec_LoadGrid at h
  refine aw_seq ?_
  refine aw_region ?_
  refine awl_valH hτ rfl rfl rfl ?_
  refine awl_val hτ rfl rfl rfl ?_
  refine awl_nil ?_
  refine aw_seq ?_
  refine aw_region ?_
  refine awl_val hτ rfl rfl rfl ?_
  refine bnd_elim h fun x4 hx4 h => ?_
  refine awl_callP hτ false [] rfl rfl rfl (enterOk func33 rfl rfl) rfl rfl (by simp) ⟨trivial, trivial⟩ (by repeat' first | exact trivial | refine ⟨?_, ?_⟩) (spec_l10Begin_ok n s_ hx4) ?_
  rintro r0 o0 n0 ⟨rfl, rfl, rfl⟩ -
  refine awl_val hτ rfl rfl rfl ?_
  refine awl_val hτ rfl rfl rfl ?_
  refine awl_val hτ rfl rfl rfl ?_
  refine awl_val hτ rfl rfl rfl ?_
  refine awl_valH hτ rfl rfl rfl ?_
  refine awl_valH hτ rfl rfl rfl ?_
  refine awl_val hτ rfl rfl rfl ?_
  refine awl_val hτ rfl rfl rfl ?_
  refine awl_nil ?_
  refine aw_hk1 (ι := Unit) (fun _ => St.of [(2, .ptr 0 0), (4, .ptr 1 0)] [.box [.d (.cx .f32 (0 : Nat) (0 : Nat)), .d (.cx .f32 (0 : Nat) (0 : Nat)), .d (.cx .f32 (0 : Nat) (0 : Nat)), .d (.nils), .d (.nils)], .box [.d (.cx .f32 x4.1.Feeder.Source.A.re x4.1.Feeder.Source.A.im), .d (.cx .f32 x4.1.Feeder.Source.B.re x4.1.Feeder.Source.B.im), .d (.cx .f32 x4.1.Feeder.Source.C.re x4.1.Feeder.Source.C.im), .d (.sl false (x4.1.Feeder.Buses.map eSBus)), .d (.sl false (x4.1.Ties.map eSTie))]] f7.ntmps 0) (fun _ => m_spec_LoadGrid_j1 n x4 = some r) ?_ (fun hk7 => ?_)
  · rintro ⟨⟩ h
    replace h : m_spec_LoadGrid_j1 n x4 = some r := h
    unfold m_spec_LoadGrid_j1 at h
    refine aw_seq ?_
    refine aw_region ?_
    refine awl_val hτ rfl rfl rfl ?_
    refine awl_valH hτ rfl rfl rfl ?_
    refine awl_val hτ rfl rfl rfl ?_
    refine awl_nil ?_
    refine aw_weak (weak_ofP [0] (l := [(2, .ptr 0 0), (3, .d (.bool true))]) (objs := [.box [.d (.cx .f32 x4.1.Feeder.Source.A.re x4.1.Feeder.Source.A.im), .d (.cx .f32 x4.1.Feeder.Source.B.re x4.1.Feeder.Source.B.im), .d (.cx .f32 x4.1.Feeder.Source.C.re x4.1.Feeder.Source.C.im), .d (.sl false (x4.1.Feeder.Buses.map eSBus)), .d (.sl false (x4.1.Ties.map eSTie))]]) rfl (by simp) rfl (by repeat' first | exact trivial | refine ⟨?_, ?_⟩) ⟨rfl, trivial, rfl, trivial, trivial⟩) ?_
    refine aw_ret ?_
    have hr := Option.some.inj h
    subst hr
    exact ret_objs (.inr rfl) [] (objs' := []) (new := []) rfl (by simp) (by simp) rfl (by repeat' first | exact trivial | refine ⟨?_, ?_⟩) rfl rfl (by repeat' first | exact trivial | refine ⟨?_, ?_⟩) (fun h => nomatch h) ⟨rfl, rfl, rfl⟩
  · refine aw_seq ?_
    refine aw_hk1 (ι := Bool) (fun v10 => St.of [(2, .ptr 0 0), (4, .ptr 1 0), (20, .d (.bool v10))] [.box [.d (.cx .f32 (0 : Nat) (0 : Nat)), .d (.cx .f32 (0 : Nat) (0 : Nat)), .d (.cx .f32 (0 : Nat) (0 : Nat)), .d (.nils), .d (.nils)], .box [.d (.cx .f32 x4.1.Feeder.Source.A.re x4.1.Feeder.Source.A.im), .d (.cx .f32 x4.1.Feeder.Source.B.re x4.1.Feeder.Source.B.im), .d (.cx .f32 x4.1.Feeder.Source.C.re x4.1.Feeder.Source.C.im), .d (.sl false (x4.1.Feeder.Buses.map eSBus)), .d (.sl false (x4.1.Ties.map eSTie))]] f7.ntmps 0) (fun v10 => m_spec_LoadGrid_j2 n x4 v10 = some r) ?_ (fun hk12 => ?_)
    · rintro v10 h
      replace h : m_spec_LoadGrid_j2 n x4 v10 = some r := h
      unfold m_spec_LoadGrid_j2 at h
      refine aw_cond rfl (fun hc11 => ?_) (fun hc11 => ?_)
      · have h := if_bt h hc11
        refine aw_seq ?_
        refine aw_region ?_
        refine awl_val hτ rfl rfl rfl ?_
        refine awl_valH hτ rfl rfl rfl ?_
        refine awl_val hτ rfl rfl rfl ?_
        refine awl_nil ?_
        refine aw_weak (weak_ofP [0] (l := [(2, .ptr 0 0), (3, .d (.bool false))]) (objs := [.box [.d (.cx .f32 (0 : Nat) (0 : Nat)), .d (.cx .f32 (0 : Nat) (0 : Nat)), .d (.cx .f32 (0 : Nat) (0 : Nat)), .d (.nils), .d (.nils)]]) rfl (by simp) rfl (by repeat' first | exact trivial | refine ⟨?_, ?_⟩) ⟨rfl, trivial, rfl, trivial, trivial⟩) ?_
        refine aw_weak (weak_relax [] (l' := [(2, .ptr 0 0), (3, .d (.bool false))]) (objs' := [.box [.d (.cx .f32 (0 : Nat) (0 : Nat)), .d (.cx .f32 (0 : Nat) (0 : Nat)), .d (.cx .f32 (0 : Nat) (0 : Nat)), .d (.sl false (([] : List SBus).map eSBus)), .d (.sl false (([] : List STie).map eSTie))]]) (.cons (.c (.refl _)) (.cons (.c (.refl _)) .nil)) (.cons (.box (.cons (.refl _) (.cons (.refl _) (.cons (.refl _) (.cons (.d .nil) (.cons (.d .nil) .nil)))))) .nil)) ?_
        refine aw_ret ?_
        have hr := Option.some.inj h
        subst hr
        exact ret_objs (.inr rfl) [] (objs' := []) (new := []) rfl (by simp) (by simp) rfl (by repeat' first | exact trivial | refine ⟨?_, ?_⟩) rfl rfl (by repeat' first | exact trivial | refine ⟨?_, ?_⟩) (fun h => nomatch h) ⟨rfl, rfl, rfl⟩
      · have h := if_bf h hc11
        refine aw_skip ?_
        refine aw_weak (weak_ofP [0, 1] (l := [(2, .ptr 0 0), (4, .ptr 1 0)]) (objs := [.box [.d (.cx .f32 (0 : Nat) (0 : Nat)), .d (.cx .f32 (0 : Nat) (0 : Nat)), .d (.cx .f32 (0 : Nat) (0 : Nat)), .d (.nils), .d (.nils)], .box [.d (.cx .f32 x4.1.Feeder.Source.A.re x4.1.Feeder.Source.A.im), .d (.cx .f32 x4.1.Feeder.Source.B.re x4.1.Feeder.Source.B.im), .d (.cx .f32 x4.1.Feeder.Source.C.re x4.1.Feeder.Source.C.im), .d (.sl false (x4.1.Feeder.Buses.map eSBus)), .d (.sl false (x4.1.Ties.map eSTie))]]) rfl (by simp) rfl (by repeat' first | exact trivial | refine ⟨?_, ?_⟩) ⟨rfl, trivial, rfl, trivial, trivial⟩) ?_
        exact hk7 () h
    · refine aw_seq ?_
      refine aw_weak (weak_ofP [0, 1] (l := [(0, .d (.str (bstr s_))), (2, .ptr 0 0), (4, .ptr 1 0), (5, .d (.int .i64 x4.2.1)), (6, .d (.bool x4.2.2))]) (objs := [.box [.d (.cx .f32 (0 : Nat) (0 : Nat)), .d (.cx .f32 (0 : Nat) (0 : Nat)), .d (.cx .f32 (0 : Nat) (0 : Nat)), .d (.nils), .d (.nils)], .box [.d (.cx .f32 x4.1.Feeder.Source.A.re x4.1.Feeder.Source.A.im), .d (.cx .f32 x4.1.Feeder.Source.B.re x4.1.Feeder.Source.B.im), .d (.cx .f32 x4.1.Feeder.Source.C.re x4.1.Feeder.Source.C.im), .d (.sl false (x4.1.Feeder.Buses.map eSBus)), .d (.sl false (x4.1.Ties.map eSTie))]]) rfl (by simp) rfl (by repeat' first | exact trivial | refine ⟨?_, ?_⟩) ⟨rfl, trivial, rfl, trivial, rfl, trivial, rfl, trivial, rfl, trivial, trivial⟩) ?_
      refine aw_region ?_
      refine awl_val hτ rfl rfl rfl ?_
      refine awl_val hτ rfl rfl rfl ?_
      refine awl_val hτ rfl rfl rfl ?_
      refine awl_split 15 rfl (fun hb13 => ?_) (fun hb13 => ?_)
      · have hb13 := not_t hb13
        have h := if_bf h hb13
        refine awl_skip rfl rfl ?_
        refine awl_skip rfl rfl ?_
        refine awl_skip rfl rfl ?_
        refine awl_skip rfl rfl ?_
        refine awl_val hτ rfl rfl rfl ?_
        refine awl_nil ?_
        refine aw_weak (weak_ofP [0, 1] (l := [(2, .ptr 0 0), (4, .ptr 1 0), (20, .d (.bool true))]) (objs := [.box [.d (.cx .f32 (0 : Nat) (0 : Nat)), .d (.cx .f32 (0 : Nat) (0 : Nat)), .d (.cx .f32 (0 : Nat) (0 : Nat)), .d (.nils), .d (.nils)], .box [.d (.cx .f32 x4.1.Feeder.Source.A.re x4.1.Feeder.Source.A.im), .d (.cx .f32 x4.1.Feeder.Source.B.re x4.1.Feeder.Source.B.im), .d (.cx .f32 x4.1.Feeder.Source.C.re x4.1.Feeder.Source.C.im), .d (.sl false (x4.1.Feeder.Buses.map eSBus)), .d (.sl false (x4.1.Ties.map eSTie))]]) rfl (by simp) rfl (by repeat' first | exact trivial | refine ⟨?_, ?_⟩) ⟨rfl, trivial, rfl, trivial, rfl, trivial, trivial⟩) ?_
        exact hk12 true h
      · have hb13 := not_f hb13
        have h := if_bt h hb13
        refine awl_val hτ rfl rfl rfl ?_
        refine awl_val hτ rfl rfl rfl ?_
        refine awl_val hτ rfl rfl rfl ?_
        refine awl_val hτ (v := .d (.bool (!(decide (x4.2.1 = (s_.length : Int)))))) rfl rfl (or_ine _ _) ?_
        refine awl_val hτ rfl rfl rfl ?_
        refine awl_nil ?_
        refine aw_weak (weak_ofP [0, 1] (l := [(2, .ptr 0 0), (4, .ptr 1 0), (20, .d (.bool (!(decide (x4.2.1 = (s_.length : Int))))))]) (objs := [.box [.d (.cx .f32 (0 : Nat) (0 : Nat)), .d (.cx .f32 (0 : Nat) (0 : Nat)), .d (.cx .f32 (0 : Nat) (0 : Nat)), .d (.nils), .d (.nils)], .box [.d (.cx .f32 x4.1.Feeder.Source.A.re x4.1.Feeder.Source.A.im), .d (.cx .f32 x4.1.Feeder.Source.B.re x4.1.Feeder.Source.B.im), .d (.cx .f32 x4.1.Feeder.Source.C.re x4.1.Feeder.Source.C.im), .d (.sl false (x4.1.Feeder.Buses.map eSBus)), .d (.sl false (x4.1.Ties.map eSTie))]]) rfl (by simp) rfl (by repeat' first | exact trivial | refine ⟨?_, ?_⟩) ⟨rfl, trivial, rfl, trivial, rfl, trivial, trivial⟩) ?_
        exact hk12 (!(decide (x4.2.1 = (s_.length : Int)))) h

def m_stringslite_HasPrefix (n : Nat) (s_ : Str) (prefix_ : Str) : Option Bool :=
  if (s_.length : Int) ≥ (prefix_.length : Int) then
    grd (0 ≤ (0 : Int) ∧ (0 : Int) ≤ (prefix_.length : Int) ∧ (prefix_.length : Int) ≤ (s_.length : Int)) <|
    some (decide ((sub s_ (0 : Int) (prefix_.length : Int)) = prefix_))
  else
    some false
theorem stringslite_HasPrefix_ok_fr0 (fr : Bool) (n : Nat) (s_ : Str) (prefix_ : Str) {r : Bool} (h : m_stringslite_HasPrefix n s_ prefix_ = some r) : ACall prog fr 121 [.d (.str (bstr s_)), .d (.str (bstr prefix_))] [] (fun v o new => v = .d (.bool r) ∧ o = [] ∧ new = []) := by
  refine acall_of_aw hτ func121 rfl (by simp) (by simp) ?_
  unfold m_stringslite_HasPrefix at h
  refine aw_seq ?_
  refine aw_region ?_
  refine awl_val hτ rfl rfl rfl ?_
  refine awl_nil ?_
  refine aw_seq ?_
  refine aw_region ?_
  refine awl_val hτ rfl rfl rfl ?_
  refine awl_val hτ rfl rfl rfl ?_
  refine awl_val hτ rfl rfl rfl ?_
  refine awl_val hτ rfl rfl rfl ?_
  refine awl_val hτ rfl rfl rfl ?_
  refine awl_val hτ rfl rfl rfl ?_
  refine awl_split 10 rfl (fun hb4 => ?_) (fun hb4 => ?_)
  · have h := if_t h hb4
    refine awl_val hτ rfl rfl rfl ?_
    refine awl_val hτ rfl rfl rfl ?_
    refine awl_val hτ rfl rfl rfl ?_
    refine grd_elim h fun hg5 h => ?_
    refine awl_need hτ (v := .d (.str (bstr (sub s_ (0 : Int) (prefix_.length : Int))))) rfl rfl (Eq.trans rfl (or_ssub _ _ _)) hg5 ?_
    refine awl_val hτ rfl rfl rfl ?_
    refine awl_weak (weak_ofP [] (l := [(4, .d (.bool false)), (10, .d (.bool true)), (14, .d (.str (bstr (sub s_ (0 : Int) (prefix_.length : Int))))), (15, .d (.str (bstr prefix_)))]) (objs := []) rfl (by simp) rfl (by repeat' first | exact trivial | refine ⟨?_, ?_⟩) ⟨rfl, trivial, rfl, trivial, rfl, trivial, rfl, trivial, trivial⟩) ?_
    refine awl_val hτ (v := .d (.bool (decide ((sub s_ (0 : Int) (prefix_.length : Int)) = prefix_)))) rfl rfl (or_seq _ _) ?_
    refine awl_val hτ rfl rfl rfl ?_
    refine awl_val hτ rfl rfl rfl ?_
    refine awl_nil ?_
    refine aw_weak (weak_ofP [] (l := [(4, .d (.bool (decide ((sub s_ (0 : Int) (prefix_.length : Int)) = prefix_))))]) (objs := []) rfl (by simp) rfl (by repeat' first | exact trivial | refine ⟨?_, ?_⟩) ⟨rfl, trivial, trivial⟩) ?_
    refine aw_ret ?_
    have hr := Option.some.inj h
    subst hr
    exact ret_objs (.inr rfl) [] (objs' := []) (new := []) rfl (by simp) (by simp) rfl (by repeat' first | exact trivial | refine ⟨?_, ?_⟩) rfl rfl (by repeat' first | exact trivial | refine ⟨?_, ?_⟩) (fun _ => ⟨by simp [V.flat, V.flatA, V.flatC, D.flat], flat_nil⟩) ⟨rfl, rfl, rfl⟩
  · have h := if_f h hb4
    refine awl_skip rfl rfl ?_
    refine awl_skip rfl rfl ?_
    refine awl_skip rfl rfl ?_
    refine awl_skip rfl rfl ?_
    refine awl_skip rfl rfl ?_
    refine awl_weak (weak_ofP [] (l := [(4, .d (.bool false)), (10, .d (.bool false)), (14, .und), (15, .und)]) (objs := []) rfl (by simp) rfl (by repeat' first | exact trivial | refine ⟨?_, ?_⟩) ⟨rfl, trivial, rfl, trivial, rfl, trivial, rfl, trivial, trivial⟩) ?_
    refine awl_skip rfl rfl ?_
    refine awl_val hτ rfl rfl rfl ?_
    refine awl_val hτ rfl rfl rfl ?_
    refine awl_nil ?_
    refine aw_weak (weak_ofP [] (l := [(4, .d (.bool false))]) (objs := []) rfl (by simp) rfl (by repeat' first | exact trivial | refine ⟨?_, ?_⟩) ⟨rfl, trivial, trivial⟩) ?_
    refine aw_ret ?_
    have hr := Option.some.inj h
    subst hr
    exact ret_objs (.inr rfl) [] (objs' := []) (new := []) rfl (by simp) (by simp) rfl (by repeat' first | exact trivial | refine ⟨?_, ?_⟩) rfl rfl (by repeat' first | exact trivial | refine ⟨?_, ?_⟩) (fun _ => ⟨by simp [V.flat, V.flatA, V.flatC, D.flat], flat_nil⟩) ⟨rfl, rfl, rfl⟩
theorem stringslite_HasPrefix_ok (n : Nat) (s_ : Str) (prefix_ : Str) {r : Bool} (h : m_stringslite_HasPrefix n s_ prefix_ = some r) : ACall prog false 121 [.d (.str (bstr s_)), .d (.str (bstr prefix_))] [] (fun v o new => v = .d (.bool r) ∧ o = [] ∧ new = []) := stringslite_HasPrefix_ok_fr0 false n s_ prefix_ h
theorem stringslite_HasPrefix_ok_fr (n : Nat) (s_ : Str) (prefix_ : Str) {r : Bool} (h : m_stringslite_HasPrefix n s_ prefix_ = some r) : ACall prog true 121 [.d (.str (bstr s_)), .d (.str (bstr prefix_))] [] (fun v o new => v = .d (.bool r) ∧ o = [] ∧ new = []) := stringslite_HasPrefix_ok_fr0 true n s_ prefix_ h

def m_strings_HasPrefix (n : Nat) (s_ : Str) (prefix_ : Str) : Option Bool :=
  (m_stringslite_HasPrefix n s_ prefix_).bind fun x2 =>
  some x2
theorem strings_HasPrefix_ok_fr0 (fr : Bool) (n : Nat) (s_ : Str) (prefix_ : Str) {r : Bool} (h : m_strings_HasPrefix n s_ prefix_ = some r) : ACall prog fr 78 [.d (.str (bstr s_)), .d (.str (bstr prefix_))] [] (fun v o new => v = .d (.bool r) ∧ o = [] ∧ new = []) := by
  refine acall_of_aw hτ func78 rfl (by simp) (by simp) ?_
  unfold m_strings_HasPrefix at h
  refine aw_seq ?_
  refine aw_region ?_
  refine awl_val hτ rfl rfl rfl ?_
  refine awl_nil ?_
  refine aw_seq ?_
  refine aw_region ?_
  refine awl_val hτ rfl rfl rfl ?_
  refine awl_val hτ rfl rfl rfl ?_
  refine bnd_elim h fun x2 hx2 h => ?_
  refine awl_callP hτ false [] rfl rfl rfl (enterOk func121 rfl rfl) rfl rfl (by simp) ⟨trivial, trivial, trivial⟩ (by repeat' first | exact trivial | refine ⟨?_, ?_⟩) (stringslite_HasPrefix_ok n s_ prefix_ hx2) ?_
  rintro r0 o0 n0 ⟨rfl, rfl, rfl⟩ -
  refine awl_val hτ rfl rfl rfl ?_
  refine awl_nil ?_
  refine aw_weak (weak_ofP [] (l := [(4, .d (.bool x2))]) (objs := []) rfl (by simp) rfl (by repeat' first | exact trivial | refine ⟨?_, ?_⟩) ⟨rfl, trivial, trivial⟩) ?_
  refine aw_ret ?_
  have hr := Option.some.inj h
  subst hr
  exact ret_objs (.inr rfl) [] (objs' := []) (new := []) rfl (by simp) (by simp) rfl (by repeat' first | exact trivial | refine ⟨?_, ?_⟩) rfl rfl (by repeat' first | exact trivial | refine ⟨?_, ?_⟩) (fun _ => ⟨by simp [V.flat, V.flatA, V.flatC, D.flat], flat_nil⟩) ⟨rfl, rfl, rfl⟩
theorem strings_HasPrefix_ok (n : Nat) (s_ : Str) (prefix_ : Str) {r : Bool} (h : m_strings_HasPrefix n s_ prefix_ = some r) : ACall prog false 78 [.d (.str (bstr s_)), .d (.str (bstr prefix_))] [] (fun v o new => v = .d (.bool r) ∧ o = [] ∧ new = []) := strings_HasPrefix_ok_fr0 false n s_ prefix_ h
theorem strings_HasPrefix_ok_fr (n : Nat) (s_ : Str) (prefix_ : Str) {r : Bool} (h : m_strings_HasPrefix n s_ prefix_ = some r) : ACall prog true 78 [.d (.str (bstr s_)), .d (.str (bstr prefix_))] [] (fun v o new => v = .d (.bool r) ∧ o = [] ∧ new = []) := strings_HasPrefix_ok_fr0 true n s_ prefix_ h

def m_impl_reader_number_j2 (n : Nat) (r_ : SReader) (many_ : Int) (v11 : Bool) (v18 : Int) : Option (Int × SReader) :=
  some (v18, (SReader.mk r_.s (w64 (r_.at_ + many_)) v11))
def m_impl_reader_number_l3 (n : Nat) (r_ : SReader) (many_ : Int) (v11 : Bool) : Nat → Int → Int → Option (Int × SReader)
  | 0, _, _ => none
  | m26 + 1, v21, v22 =>
    if v22 ≥ (0 : Int) then
      (getI r_.s (w64 (r_.at_ + v22))).bind fun x29 =>
      (m_impl_reader_number_l3 n r_ many_ v11 m26) (w64 ((w64 (v21 * 2 ^ min (8 : Int).toNat (IntKind.bits .i64))) + (w64 ((x29.toNat : Int))))) (w64 (v22 - (1 : Int)))
    else
      m_impl_reader_number_j2 n r_ many_ v11 v21
def m_impl_reader_number_j1 (n : Nat) (r_ : SReader) (many_ : Int) (v11 : Bool) : Option (Int × SReader) :=
  m_impl_reader_number_l3 n r_ many_ v11 n (0 : Int) (w64 (many_ - (1 : Int)))
def m_impl_reader_number_j4 (n : Nat) (r_ : SReader) (many_ : Int) (v33 : Bool) : Option (Int × SReader) :=
  if v33 = true then
    some ((0 : Int), (SReader.mk r_.s r_.at_ v33))
  else
    m_impl_reader_number_j1 n r_ many_ v33
def m_impl_reader_number (n : Nat) (r_ : SReader) (many_ : Int) : Option (Int × SReader) :=
  if r_.short = true then
    m_impl_reader_number_j4 n r_ many_ true
  else
    m_impl_reader_number_j4 n r_ many_ (decide ((w64 (r_.at_ + many_)) > (r_.s.length : Int)))
theorem impl_reader_number_ok_fr0 (fr : Bool) (n : Nat) (r_ : SReader) (many_ : Int) {r : Int × SReader} (h : m_impl_reader_number n r_ many_ = some r) : ACall prog fr 80 [.ptr 0 0, .d (.int .i64 many_)] [.box [.d (.str (bstr r_.s)), .d (.int .i64 r_.at_), .d (.bool r_.short)]] (fun v o new => v = .d (.int .i64 r.1) ∧ o = [.box [.d (.str (bstr r.2.s)), .d (.int .i64 r.2.at_), .d (.bool r.2.short)]] ∧ new = []) := by
  refine acall_of_aw hτ func80 rfl (by simp) (by simp) ?_
  unfold m_impl_reader_number at h
  refine aw_seq ?_
  refine aw_region ?_
  refine awl_val hτ rfl rfl rfl ?_
  refine awl_nil ?_
  refine aw_hk1 (ι := Bool) (fun v11 => St.of [(0, .ptr 0 0), (1, .d (.int .i64 many_))] [.box [.d (.str (bstr r_.s)), .d (.int .i64 r_.at_), .d (.bool v11)]] f80.ntmps 1) (fun v11 => m_impl_reader_number_j1 n r_ many_ v11 = some r) ?_ (fun hk30 => ?_)
  · rintro v11 h
    replace h : m_impl_reader_number_j1 n r_ many_ v11 = some r := h
    unfold m_impl_reader_number_j1 at h
    refine aw_seq ?_
    refine aw_region ?_
    refine awl_val hτ rfl rfl rfl ?_
    refine awl_nil ?_
    refine aw_hk1 (ι := Int) (fun v18 => St.of [(0, .ptr 0 0), (1, .d (.int .i64 many_)), (5, .d (.int .i64 v18))] [.box [.d (.str (bstr r_.s)), .d (.int .i64 r_.at_), .d (.bool v11)]] f80.ntmps 1) (fun v18 => m_impl_reader_number_j2 n r_ many_ v11 v18 = some r) ?_ (fun hk19 => ?_)
    · rintro v18 h
      replace h : m_impl_reader_number_j2 n r_ many_ v11 v18 = some r := h
      unfold m_impl_reader_number_j2 at h
      refine aw_seq ?_
      refine aw_region ?_
      refine awl_val hτ rfl rfl rfl ?_
      refine awl_val hτ rfl rfl rfl ?_
      refine awl_val hτ rfl rfl rfl ?_
      refine awl_val hτ rfl rfl rfl ?_
      refine awl_val hτ rfl rfl rfl ?_
      refine awl_val hτ rfl rfl rfl ?_
      refine awl_val hτ rfl rfl rfl ?_
      refine awl_val hτ rfl rfl rfl ?_
      refine awl_valH hτ rfl rfl rfl ?_
      refine awl_nil ?_
      refine aw_seq ?_
      refine aw_weak (weak_ofP [0] (l := [(5, .d (.int .i64 v18))]) (objs := [.box [.d (.str (bstr r_.s)), .d (.int .i64 (w64 (r_.at_ + many_))), .d (.bool v11)]]) rfl (by simp) rfl (by repeat' first | exact trivial | refine ⟨?_, ?_⟩) ⟨rfl, trivial, trivial⟩) ?_
      refine aw_region ?_
      refine awl_val hτ rfl rfl rfl ?_
      refine awl_val hτ rfl rfl rfl ?_
      refine awl_nil ?_
      refine aw_weak (weak_ofP [0] (l := [(4, .d (.int .i64 v18))]) (objs := [.box [.d (.str (bstr r_.s)), .d (.int .i64 (w64 (r_.at_ + many_))), .d (.bool v11)]]) rfl (by simp) rfl (by repeat' first | exact trivial | refine ⟨?_, ?_⟩) ⟨rfl, trivial, trivial⟩) ?_
      refine aw_ret ?_
      have hr := Option.some.inj h
      subst hr
      exact ret_objs (.inr rfl) [] (objs' := [.box [.d (.str (bstr r_.s)), .d (.int .i64 (w64 (r_.at_ + many_))), .d (.bool v11)]]) (new := []) rfl (by simp) (by simp) rfl (by repeat' first | exact trivial | refine ⟨?_, ?_⟩) rfl rfl (by repeat' first | exact trivial | refine ⟨?_, ?_⟩) (fun _ => ⟨by simp [V.flat, V.flatA, V.flatC, D.flat], (flat_cons (by simp [AObj.flat, V.flatC, D.flat]) flat_nil)⟩) ⟨rfl, rfl, rfl⟩
    · refine aw_seq ?_
      refine aw_seq ?_
      refine aw_region ?_
      refine awl_val hτ rfl rfl rfl ?_
      refine awl_val hτ rfl rfl rfl ?_
      refine awl_val hτ rfl rfl rfl ?_
      refine awl_nil ?_
      refine aw_block ?_
      refine aw_loop (ι := Nat × Int × Int) (fun (m26, v21, v22) => St.of [(0, .ptr 0 0), (1, .d (.int .i64 many_)), (5, .d (.int .i64 v21)), (6, .d (.int .i64 v22))] [.box [.d (.str (bstr r_.s)), .d (.int .i64 r_.at_), .d (.bool v11)]] f80.ntmps 1) (fun (m26, v21, v22) => m_impl_reader_number_l3 n r_ many_ v11 m26 v21 v22 = some r) (fun x => x.1) (n, (0 : Int), (w64 (many_ - (1 : Int)))) h (weak_ofP [0] (l := [(0, .ptr 0 0), (1, .d (.int .i64 many_)), (5, .d (.int .i64 (0 : Int))), (6, .d (.int .i64 (w64 (many_ - (1 : Int)))))]) (objs := [.box [.d (.str (bstr r_.s)), .d (.int .i64 r_.at_), .d (.bool v11)]]) rfl (by simp) rfl (by repeat' first | exact trivial | refine ⟨?_, ?_⟩) ⟨rfl, trivial, rfl, trivial, rfl, trivial, rfl, trivial, trivial⟩) ?_
      rintro ⟨m26, v21, v22⟩ h
      replace h : m_impl_reader_number_l3 n r_ many_ v11 m26 v21 v22 = some r := h
      rcases m26 with _ | m26
      · rw [m_impl_reader_number_l3] at h; cases h
      rw [m_impl_reader_number_l3] at h
      refine aw_seq ?_
      refine aw_seq ?_
      refine aw_region ?_
      refine awl_val hτ rfl rfl rfl ?_
      refine awl_val hτ rfl rfl rfl ?_
      refine awl_nil ?_
      refine aw_cond rfl (fun hc28 => ?_) (fun hc28 => ?_)
      · have h := if_t h hc28
        refine aw_skip ?_
        refine aw_seq ?_
        refine aw_block ?_
        refine any_start ?_
        refine any_val hτ [] 0 rfl rfl rfl rfl rfl ?_
        refine any_need hτ [] 1 rfl rfl rfl rfl rfl (by decide) ?_
        refine any_val hτ [] 2 rfl rfl rfl rfl rfl ?_
        refine any_val hτ [] 3 rfl rfl rfl rfl rfl ?_
        refine any_val hτ [0] 4 rfl rfl rfl rfl rfl ?_
        refine any_val hτ [0] 5 rfl rfl rfl rfl rfl ?_
        refine any_val hτ [] 6 rfl rfl rfl rfl rfl ?_
        refine any_val hτ [] 7 rfl rfl rfl rfl rfl ?_
        refine any_val hτ [0] 8 rfl rfl rfl rfl rfl ?_
        refine any_val hτ [0] 9 rfl rfl rfl rfl rfl ?_
        refine any_val hτ [] 10 rfl rfl rfl rfl rfl ?_
        refine any_val hτ [] 11 rfl rfl rfl rfl rfl ?_
        refine bnd_elim h fun x29 hx29 h => ?_
        refine any_need hτ (v := .d (.int .u8 (x29.toNat : Int))) [] 12 rfl rfl rfl rfl (Eq.trans rfl (or_sidx hx29)) (sidx_need hx29) ?_
        refine any_val hτ [] 13 rfl rfl rfl rfl rfl ?_
        refine any_val hτ [] 14 rfl rfl rfl rfl rfl ?_
        refine any_val hτ [] 15 rfl rfl rfl rfl rfl ?_
        refine any_done mixed (by kernel_rfl) ?_
        refine aw_weak (weak_ofP [0] (l := [(0, .ptr 0 0), (1, .d (.int .i64 many_)), (5, .d (.int .i64 (w64 ((w64 (v21 * 2 ^ min (8 : Int).toNat (IntKind.bits .i64))) + (w64 ((x29.toNat : Int))))))), (6, .d (.int .i64 v22))]) (objs := [.box [.d (.str (bstr r_.s)), .d (.int .i64 r_.at_), .d (.bool v11)]]) rfl (by simp) rfl (by repeat' first | exact trivial | refine ⟨?_, ?_⟩) ⟨rfl, trivial, rfl, trivial, rfl, trivial, rfl, trivial, trivial⟩) ?_
        refine aw_region ?_
        refine awl_val hτ rfl rfl rfl ?_
        refine awl_val hτ rfl rfl rfl ?_
        refine awl_val hτ rfl rfl rfl ?_
        refine awl_nil ?_
        exact ⟨(m26, (w64 ((w64 (v21 * 2 ^ min (8 : Int).toNat (IntKind.bits .i64))) + (w64 ((x29.toNat : Int))))), (w64 (v22 - (1 : Int)))), h, Nat.lt_succ_self m26, (weak_ofP [0] (l := [(0, .ptr 0 0), (1, .d (.int .i64 many_)), (5, .d (.int .i64 (w64 ((w64 (v21 * 2 ^ min (8 : Int).toNat (IntKind.bits .i64))) + (w64 ((x29.toNat : Int))))))), (6, .d (.int .i64 (w64 (v22 - (1 : Int)))))]) (objs := [.box [.d (.str (bstr r_.s)), .d (.int .i64 r_.at_), .d (.bool v11)]]) rfl (by simp) rfl (by repeat' first | exact trivial | refine ⟨?_, ?_⟩) ⟨rfl, trivial, rfl, trivial, rfl, trivial, rfl, trivial, trivial⟩)⟩
      · have h := if_f h hc28
        refine aw_exit ?_
        refine aw_weak (weak_ofP [0] (l := [(0, .ptr 0 0), (1, .d (.int .i64 many_)), (5, .d (.int .i64 v21))]) (objs := [.box [.d (.str (bstr r_.s)), .d (.int .i64 r_.at_), .d (.bool v11)]]) rfl (by simp) rfl (by repeat' first | exact trivial | refine ⟨?_, ?_⟩) ⟨rfl, trivial, rfl, trivial, rfl, trivial, trivial⟩) ?_
        exact hk19 v21 h
  · refine aw_seq ?_
    refine aw_hk1 (ι := Bool) (fun v33 => St.of [(0, .ptr 0 0), (1, .d (.int .i64 many_))] [.box [.d (.str (bstr r_.s)), .d (.int .i64 r_.at_), .d (.bool v33)]] f80.ntmps 1) (fun v33 => m_impl_reader_number_j4 n r_ many_ v33 = some r) ?_ (fun hk35 => ?_)
    · rintro v33 h
      replace h : m_impl_reader_number_j4 n r_ many_ v33 = some r := h
      unfold m_impl_reader_number_j4 at h
      refine aw_seq ?_
      refine aw_region ?_
      refine awl_val hτ rfl rfl rfl ?_
      refine awl_val hτ rfl rfl rfl ?_
      refine awl_val hτ rfl rfl rfl ?_
      refine awl_val hτ rfl rfl rfl ?_
      refine awl_nil ?_
      refine aw_cond rfl (fun hc34 => ?_) (fun hc34 => ?_)
      · have h := if_bt h hc34
        refine aw_seq ?_
        refine aw_region ?_
        refine awl_val hτ rfl rfl rfl ?_
        refine awl_nil ?_
        refine aw_weak (weak_ofP [0] (l := [(4, .d (.int .i64 (0 : Int)))]) (objs := [.box [.d (.str (bstr r_.s)), .d (.int .i64 r_.at_), .d (.bool v33)]]) rfl (by simp) rfl (by repeat' first | exact trivial | refine ⟨?_, ?_⟩) ⟨rfl, trivial, trivial⟩) ?_
        refine aw_ret ?_
        have hr := Option.some.inj h
        subst hr
        exact ret_objs (.inr rfl) [] (objs' := [.box [.d (.str (bstr r_.s)), .d (.int .i64 r_.at_), .d (.bool v33)]]) (new := []) rfl (by simp) (by simp) rfl (by repeat' first | exact trivial | refine ⟨?_, ?_⟩) rfl rfl (by repeat' first | exact trivial | refine ⟨?_, ?_⟩) (fun _ => ⟨by simp [V.flat, V.flatA, V.flatC, D.flat], (flat_cons (by simp [AObj.flat, V.flatC, D.flat]) flat_nil)⟩) ⟨rfl, rfl, rfl⟩
      · have h := if_bf h hc34
        refine aw_skip ?_
        refine aw_weak (weak_ofP [0] (l := [(0, .ptr 0 0), (1, .d (.int .i64 many_))]) (objs := [.box [.d (.str (bstr r_.s)), .d (.int .i64 r_.at_), .d (.bool v33)]]) rfl (by simp) rfl (by repeat' first | exact trivial | refine ⟨?_, ?_⟩) ⟨rfl, trivial, rfl, trivial, trivial⟩) ?_
        exact hk30 v33 h
    · refine aw_seq ?_
      refine any_start ?_
      refine any_val hτ [] 0 rfl rfl rfl rfl rfl ?_
      refine any_val hτ [] 1 rfl rfl rfl rfl rfl ?_
      refine any_val hτ [] 2 rfl rfl rfl rfl rfl ?_
      refine any_val hτ [0] 3 rfl rfl rfl rfl rfl ?_
      refine any_val hτ [0] 4 rfl rfl rfl rfl rfl ?_
      refine any_val hτ [] 5 rfl rfl rfl rfl rfl ?_
      refine any_split 12 rfl (fun hb36 => ?_) (fun hb36 => ?_)
      · have h := if_bt h hb36
        refine any_skip 6 rfl rfl rfl ?_
        refine any_skip 7 rfl rfl rfl ?_
        refine any_skip 8 rfl rfl rfl ?_
        refine any_skip 9 rfl rfl rfl ?_
        refine any_skip 10 rfl rfl rfl ?_
        refine any_skip 11 rfl rfl rfl ?_
        refine any_skip 12 rfl rfl rfl ?_
        refine any_skip 13 rfl rfl rfl ?_
        refine any_skip 14 rfl rfl rfl ?_
        refine any_skip 15 rfl rfl rfl ?_
        refine any_skip 16 rfl rfl rfl ?_
        refine any_skip 17 rfl rfl rfl ?_
        refine any_val hτ [] 18 rfl rfl rfl rfl rfl ?_
        refine any_val hτ [] 19 rfl rfl rfl rfl rfl ?_
        refine any_val hτ [0] 20 rfl rfl rfl rfl rfl ?_
        refine any_valHP hτ [] 21 rfl rfl rfl rfl trivial ?_
        refine any_done mixed (by kernel_rfl) ?_
        refine aw_weak (weak_ofP [0] (l := [(0, .ptr 0 0), (1, .d (.int .i64 many_))]) (objs := [.box [.d (.str (bstr r_.s)), .d (.int .i64 r_.at_), .d (.bool true)]]) rfl (by simp) rfl (by repeat' first | exact trivial | refine ⟨?_, ?_⟩) ⟨rfl, trivial, rfl, trivial, trivial⟩) ?_
        exact hk35 true h
      · have h := if_bf h hb36
        refine any_val hτ [] 6 rfl rfl rfl rfl rfl ?_
        refine any_val hτ [] 7 rfl rfl rfl rfl rfl ?_
        refine any_val hτ [0] 8 rfl rfl rfl rfl rfl ?_
        refine any_val hτ [0] 9 rfl rfl rfl rfl rfl ?_
        refine any_val hτ [] 10 rfl rfl rfl rfl rfl ?_
        refine any_val hτ [] 11 rfl rfl rfl rfl rfl ?_
        refine any_val hτ [] 12 rfl rfl rfl rfl rfl ?_
        refine any_val hτ [] 13 rfl rfl rfl rfl rfl ?_
        refine any_val hτ [0] 14 rfl rfl rfl rfl rfl ?_
        refine any_val hτ [0] 15 rfl rfl rfl rfl rfl ?_
        refine any_val hτ [] 16 rfl rfl rfl rfl rfl ?_
        refine any_val hτ [] 17 rfl rfl rfl rfl rfl ?_
        refine any_val hτ [] 18 rfl rfl rfl rfl rfl ?_
        refine any_val hτ [] 19 rfl rfl rfl rfl rfl ?_
        refine any_val hτ [0] 20 rfl rfl rfl rfl rfl ?_
        refine any_valHP hτ [] 21 rfl rfl rfl rfl trivial ?_
        refine any_done mixed (by kernel_rfl) ?_
        refine aw_weak (weak_ofP [0] (l := [(0, .ptr 0 0), (1, .d (.int .i64 many_))]) (objs := [.box [.d (.str (bstr r_.s)), .d (.int .i64 r_.at_), .d (.bool (decide ((w64 (r_.at_ + many_)) > (r_.s.length : Int))))]]) rfl (by simp) rfl (by repeat' first | exact trivial | refine ⟨?_, ?_⟩) ⟨rfl, trivial, rfl, trivial, trivial⟩) ?_
        exact hk35 (decide ((w64 (r_.at_ + many_)) > (r_.s.length : Int))) h
theorem impl_reader_number_ok (n : Nat) (r_ : SReader) (many_ : Int) {r : Int × SReader} (h : m_impl_reader_number n r_ many_ = some r) : ACall prog false 80 [.ptr 0 0, .d (.int .i64 many_)] [.box [.d (.str (bstr r_.s)), .d (.int .i64 r_.at_), .d (.bool r_.short)]] (fun v o new => v = .d (.int .i64 r.1) ∧ o = [.box [.d (.str (bstr r.2.s)), .d (.int .i64 r.2.at_), .d (.bool r.2.short)]] ∧ new = []) := impl_reader_number_ok_fr0 false n r_ many_ h
theorem impl_reader_number_ok_fr (n : Nat) (r_ : SReader) (many_ : Int) {r : Int × SReader} (h : m_impl_reader_number n r_ many_ = some r) : ACall prog true 80 [.ptr 0 0, .d (.int .i64 many_)] [.box [.d (.str (bstr r_.s)), .d (.int .i64 r_.at_), .d (.bool r_.short)]] (fun v o new => v = .d (.int .i64 r.1) ∧ o = [.box [.d (.str (bstr r.2.s)), .d (.int .i64 r.2.at_), .d (.bool r.2.short)]] ∧ new = []) := impl_reader_number_ok_fr0 true n r_ many_ h

def m_impl_in (n : Nat) (n_ : Int) (low_ : Int) (high_ : Int) : Option Bool :=
  if n_ ≥ low_ then
    some (decide (n_ ≤ high_))
  else
    some false
theorem impl_in_ok_fr0 (fr : Bool) (n : Nat) (n_ : Int) (low_ : Int) (high_ : Int) {r : Bool} (h : m_impl_in n n_ low_ high_ = some r) : ACall prog fr 62 [.d (.int .i64 n_), .d (.int .i64 low_), .d (.int .i64 high_)] [] (fun v o new => v = .d (.bool r) ∧ o = [] ∧ new = []) := by
  refine acall_of_aw hτ func62 rfl (by simp) (by simp) ?_
  unfold m_impl_in at h
  refine aw_seq ?_
  refine aw_region ?_
  refine awl_val hτ rfl rfl rfl ?_
  refine awl_nil ?_
  refine aw_seq ?_
  refine aw_region ?_
  refine awl_val hτ rfl rfl rfl ?_
  refine awl_val hτ rfl rfl rfl ?_
  refine awl_val hτ rfl rfl rfl ?_
  refine awl_val hτ rfl rfl rfl ?_
  refine awl_split 10 rfl (fun hb3 => ?_) (fun hb3 => ?_)
  · have h := if_t h hb3
    refine awl_val hτ rfl rfl rfl ?_
    refine awl_val hτ rfl rfl rfl ?_
    refine awl_val hτ rfl rfl rfl ?_
    refine awl_val hτ rfl rfl rfl ?_
    refine awl_val hτ rfl rfl rfl ?_
    refine awl_nil ?_
    refine aw_weak (weak_ofP [] (l := [(6, .d (.bool (decide (n_ ≤ high_))))]) (objs := []) rfl (by simp) rfl (by repeat' first | exact trivial | refine ⟨?_, ?_⟩) ⟨rfl, trivial, trivial⟩) ?_
    refine aw_ret ?_
    have hr := Option.some.inj h
    subst hr
    exact ret_objs (.inr rfl) [] (objs' := []) (new := []) rfl (by simp) (by simp) rfl (by repeat' first | exact trivial | refine ⟨?_, ?_⟩) rfl rfl (by repeat' first | exact trivial | refine ⟨?_, ?_⟩) (fun _ => ⟨by simp [V.flat, V.flatA, V.flatC, D.flat], flat_nil⟩) ⟨rfl, rfl, rfl⟩
  · have h := if_f h hb3
    refine awl_skip rfl rfl ?_
    refine awl_skip rfl rfl ?_
    refine awl_skip rfl rfl ?_
    refine awl_val hτ rfl rfl rfl ?_
    refine awl_val hτ rfl rfl rfl ?_
    refine awl_nil ?_
    refine aw_weak (weak_ofP [] (l := [(6, .d (.bool false))]) (objs := []) rfl (by simp) rfl (by repeat' first | exact trivial | refine ⟨?_, ?_⟩) ⟨rfl, trivial, trivial⟩) ?_
    refine aw_ret ?_
    have hr := Option.some.inj h
    subst hr
    exact ret_objs (.inr rfl) [] (objs' := []) (new := []) rfl (by simp) (by simp) rfl (by repeat' first | exact trivial | refine ⟨?_, ?_⟩) rfl rfl (by repeat' first | exact trivial | refine ⟨?_, ?_⟩) (fun _ => ⟨by simp [V.flat, V.flatA, V.flatC, D.flat], flat_nil⟩) ⟨rfl, rfl, rfl⟩
theorem impl_in_ok (n : Nat) (n_ : Int) (low_ : Int) (high_ : Int) {r : Bool} (h : m_impl_in n n_ low_ high_ = some r) : ACall prog false 62 [.d (.int .i64 n_), .d (.int .i64 low_), .d (.int .i64 high_)] [] (fun v o new => v = .d (.bool r) ∧ o = [] ∧ new = []) := impl_in_ok_fr0 false n n_ low_ high_ h
theorem impl_in_ok_fr (n : Nat) (n_ : Int) (low_ : Int) (high_ : Int) {r : Bool} (h : m_impl_in n n_ low_ high_ = some r) : ACall prog true 62 [.d (.int .i64 n_), .d (.int .i64 low_), .d (.int .i64 high_)] [] (fun v o new => v = .d (.bool r) ∧ o = [] ∧ new = []) := impl_in_ok_fr0 true n n_ low_ high_ h

end Go.Proofs.Ytmllgpkgjniomaa.AWN
