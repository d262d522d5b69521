/- Models and contracts, printed by program. -/
import Derived.Test.YtolggocnbakokaaTypes
set_option linter.unusedVariables false
set_option linter.unusedSimpArgs false
set_option linter.unusedSectionVars false
set_option maxHeartbeats 2000000
namespace Go.Proofs.Ytolggocnbakokaa.AWN
open Go Go.Proofs.Try

structure SL10Eyes where
  text : Str
  at_ : Int
  fine : Bool
deriving DecidableEq
structure SPhases where
  A : Cx
  B : Cx
  C : Cx
deriving DecidableEq
def eSPhases (x : SPhases) : List D := [.cx .f32 x.A.re x.A.im, .cx .f32 x.B.re x.B.im, .cx .f32 x.C.re x.C.im]
@[simp] theorem eSPhases_len (x : SPhases) : (eSPhases x).length = 3 := rfl
theorem eSPhases_flat (x : SPhases) : ∀ c ∈ eSPhases x, c.flat := by simp [eSPhases, D.flat]
structure SFlow where
  Voltages : List SPhases
  Currents : List SPhases
  Rounds : Int
  Rests : Bool
deriving DecidableEq
def eIntu8 (x : Int) : List D := [.int .u8 x]
@[simp] theorem eIntu8_len (x : Int) : (eIntu8 x).length = 1 := rfl
theorem eIntu8_flat (x : Int) : ∀ c ∈ eIntu8 x, c.flat := by simp [eIntu8, D.flat]
structure SReader where
  s : Str
  at_ : Int
  short : Bool
deriving DecidableEq

theorem ext123 {x : Nat} (hx : isnan .f32 x = false) : ExtDoes prog 123 [.d (.fl .f32 x)] (.d (.int .u32 x)) := extDoes (e := Extern.MathFloatBits.float32bits) func123 rfl rfl (by kernel_rfl) (by kernel_rfl) fun W hb H ok vals h => bits_run (fun _ => rfl) hx h
theorem ext146 {x : Int} (hx : x.toNat < 4294967296) : ExtDoes prog 146 [.d (.int .u32 x)] (.d (.fl .f32 (canon .f32 x.toNat))) := extDoes (e := Extern.MathFloatBits.float32frombits) func146 rfl rfl (by kernel_rfl) (by kernel_rfl) fun W hb H ok vals h => frombits_run (k := .f32) (fun _ => rfl) hx h
def m_spec_l00In (n : Nat) (n_ : Int) (low_ : Int) (high_ : Int) : Option Bool :=
  if n_ ≥ low_ then
    some (decide (n_ ≤ high_))
  else
    some false
theorem spec_l00In_ok_fr0 (fr : Bool) (n : Nat) (n_ : Int) (low_ : Int) (high_ : Int) {r : Bool} (h : m_spec_l00In n n_ low_ high_ = some r) : ACall prog fr 70 [.d (.int .i64 n_), .d (.int .i64 low_), .d (.int .i64 high_)] [] (fun v o new => v = .d (.bool r) ∧ o = [] ∧ new = []) := by
  refine acall_of_aw hτ func70 rfl (by simp) (by simp) ?_
  unfold m_spec_l00In at h
  refine aw_seq ?_
  refine aw_region ?_
  refine awl_val hτ rfl rfl rfl ?_
  refine awl_nil ?_
  refine aw_seq ?_
  refine aw_region ?_
  refine awl_val hτ rfl rfl rfl ?_
  refine awl_val hτ rfl rfl rfl ?_
  refine awl_val hτ rfl rfl rfl ?_
  refine awl_val hτ rfl rfl rfl ?_
  refine awl_split 10 rfl (fun hb3 => ?_) (fun hb3 => ?_)
  · have h := if_t h hb3
    refine awl_val hτ rfl rfl rfl ?_
    refine awl_val hτ rfl rfl rfl ?_
    refine awl_val hτ rfl rfl rfl ?_
    refine awl_val hτ rfl rfl rfl ?_
    refine awl_val hτ rfl rfl rfl ?_
    refine awl_nil ?_
    refine aw_weak (weak_ofP [] (l := [(6, .d (.bool (decide (n_ ≤ high_))))]) (objs := []) rfl (by simp) rfl (by repeat' first | exact trivial | refine ⟨?_, ?_⟩) ⟨rfl, trivial, trivial⟩) ?_
    refine aw_ret ?_
    have hr := Option.some.inj h
    subst hr
    exact ret_objs (.inr rfl) [] (objs' := []) (new := []) rfl (by simp) (by simp) rfl (by repeat' first | exact trivial | refine ⟨?_, ?_⟩) rfl rfl (by repeat' first | exact trivial | refine ⟨?_, ?_⟩) (fun _ => ⟨by simp [V.flat, V.flatA, V.flatC, D.flat], flat_nil⟩) ⟨rfl, rfl, rfl⟩
  · have h := if_f h hb3
    refine awl_skip rfl rfl ?_
    refine awl_skip rfl rfl ?_
    refine awl_skip rfl rfl ?_
    refine awl_val hτ rfl rfl rfl ?_
    refine awl_val hτ rfl rfl rfl ?_
    refine awl_nil ?_
    refine aw_weak (weak_ofP [] (l := [(6, .d (.bool false))]) (objs := []) rfl (by simp) rfl (by repeat' first | exact trivial | refine ⟨?_, ?_⟩) ⟨rfl, trivial, trivial⟩) ?_
    refine aw_ret ?_
    have hr := Option.some.inj h
    subst hr
    exact ret_objs (.inr rfl) [] (objs' := []) (new := []) rfl (by simp) (by simp) rfl (by repeat' first | exact trivial | refine ⟨?_, ?_⟩) rfl rfl (by repeat' first | exact trivial | refine ⟨?_, ?_⟩) (fun _ => ⟨by simp [V.flat, V.flatA, V.flatC, D.flat], flat_nil⟩) ⟨rfl, rfl, rfl⟩
theorem spec_l00In_ok (n : Nat) (n_ : Int) (low_ : Int) (high_ : Int) {r : Bool} (h : m_spec_l00In n n_ low_ high_ = some r) : ACall prog false 70 [.d (.int .i64 n_), .d (.int .i64 low_), .d (.int .i64 high_)] [] (fun v o new => v = .d (.bool r) ∧ o = [] ∧ new = []) := spec_l00In_ok_fr0 false n n_ low_ high_ h
theorem spec_l00In_ok_fr (n : Nat) (n_ : Int) (low_ : Int) (high_ : Int) {r : Bool} (h : m_spec_l00In n n_ low_ high_ = some r) : ACall prog true 70 [.d (.int .i64 n_), .d (.int .i64 low_), .d (.int .i64 high_)] [] (fun v o new => v = .d (.bool r) ∧ o = [] ∧ new = []) := spec_l00In_ok_fr0 true n n_ low_ high_ h

def m_spec_l10Eyes_word_j1 (n : Nat) (e_ : SL10Eyes) (size_ : Int) (v14 : Int) : Option (Int × SL10Eyes) :=
  some (v14, (SL10Eyes.mk e_.text (w64 (e_.at_ + size_)) e_.fine))
def m_spec_l10Eyes_word_l2 (n : Nat) (e_ : SL10Eyes) (size_ : Int) : Nat → Int → Int → Option (Int × SL10Eyes)
  | 0, _, _ => none
  | m22 + 1, v17, v18 =>
    if v18 ≥ (0 : Int) then
      (getI e_.text (w64 (e_.at_ + v18))).bind fun x25 =>
      (m_spec_l10Eyes_word_l2 n e_ size_ m22) (ibits .or .i64 (w64 (v17 * 2 ^ min (8 : Int).toNat (IntKind.bits .i64))) (w64 ((x25.toNat : Int)))) (w64 (v18 - (1 : Int)))
    else
      m_spec_l10Eyes_word_j1 n e_ size_ v17
def m_spec_l10Eyes_word (n : Nat) (e_ : SL10Eyes) (size_ : Int) : Option (Int × SL10Eyes) :=
  if (w64 (e_.at_ + size_)) > (e_.text.length : Int) then
    some ((0 : Int), (SL10Eyes.mk e_.text e_.at_ false))
  else
    m_spec_l10Eyes_word_l2 n e_ size_ n (0 : Int) (w64 (size_ - (1 : Int)))
theorem spec_l10Eyes_word_ok_fr0 (fr : Bool) (n : Nat) (e_ : SL10Eyes) (size_ : Int) {r : Int × SL10Eyes} (h : m_spec_l10Eyes_word n e_ size_ = some r) : ACall prog fr 108 [.ptr 0 0, .d (.int .i64 size_)] [.box [.d (.str (bstr e_.text)), .d (.int .i64 e_.at_), .d (.bool e_.fine)]] (fun v o new => v = .d (.int .i64 r.1) ∧ o = [.box [.d (.str (bstr r.2.text)), .d (.int .i64 r.2.at_), .d (.bool r.2.fine)]] ∧ new = []) := by
  refine acall_of_aw hτ func108 rfl (by simp) (by simp) ?_
  unfold m_spec_l10Eyes_word at h
  refine aw_seq ?_
  refine aw_region ?_
  refine awl_val hτ rfl rfl rfl ?_
  refine awl_nil ?_
  refine aw_seq ?_
  refine aw_region ?_
  refine awl_val hτ rfl rfl rfl ?_
  refine awl_nil ?_
  refine aw_seq ?_
  refine aw_seq ?_
  refine any_start ?_
  refine any_val hτ [] 0 rfl rfl rfl rfl rfl ?_
  refine any_val hτ [] 1 rfl rfl rfl rfl rfl ?_
  refine any_val hτ [0] 2 rfl rfl rfl rfl rfl ?_
  refine any_val hτ [0] 3 rfl rfl rfl rfl rfl ?_
  refine any_val hτ [] 4 rfl rfl rfl rfl rfl ?_
  refine any_val hτ [] 5 rfl rfl rfl rfl rfl ?_
  refine any_val hτ [] 6 rfl rfl rfl rfl rfl ?_
  refine any_val hτ [] 7 rfl rfl rfl rfl rfl ?_
  refine any_val hτ [0] 8 rfl rfl rfl rfl rfl ?_
  refine any_val hτ [0] 9 rfl rfl rfl rfl rfl ?_
  refine any_val hτ [] 10 rfl rfl rfl rfl rfl ?_
  refine any_val hτ [] 11 rfl rfl rfl rfl rfl ?_
  refine any_done mixed (by kernel_rfl) ?_
  refine aw_weak (weak_ofP [0] (l := [(0, .ptr 0 0), (1, .d (.int .i64 size_)), (5, .d (.int .i64 (0 : Int))), (18, .d (.bool (decide ((w64 (e_.at_ + size_)) > (e_.text.length : Int)))))]) (objs := [.box [.d (.str (bstr e_.text)), .d (.int .i64 e_.at_), .d (.bool e_.fine)]]) rfl (by simp) rfl (by repeat' first | exact trivial | refine ⟨?_, ?_⟩) ⟨rfl, trivial, rfl, trivial, rfl, trivial, rfl, trivial, trivial⟩) ?_
  refine aw_cond rfl (fun hc7 => ?_) (fun hc7 => ?_)
  · have h := if_t h hc7
    refine aw_seq ?_
    refine aw_region ?_
    refine awl_val hτ rfl rfl rfl ?_
    refine awl_val hτ rfl rfl rfl ?_
    refine awl_val hτ rfl rfl rfl ?_
    refine awl_valH hτ rfl rfl rfl ?_
    refine awl_nil ?_
    refine aw_seq ?_
    refine aw_region ?_
    refine awl_val hτ rfl rfl rfl ?_
    refine awl_nil ?_
    refine aw_weak (weak_ofP [0] (l := [(4, .d (.int .i64 (0 : Int)))]) (objs := [.box [.d (.str (bstr e_.text)), .d (.int .i64 e_.at_), .d (.bool false)]]) rfl (by simp) rfl (by repeat' first | exact trivial | refine ⟨?_, ?_⟩) ⟨rfl, trivial, trivial⟩) ?_
    refine aw_ret ?_
    have hr := Option.some.inj h
    subst hr
    exact ret_objs (.inr rfl) [] (objs' := [.box [.d (.str (bstr e_.text)), .d (.int .i64 e_.at_), .d (.bool false)]]) (new := []) rfl (by simp) (by simp) rfl (by repeat' first | exact trivial | refine ⟨?_, ?_⟩) rfl rfl (by repeat' first | exact trivial | refine ⟨?_, ?_⟩) (fun _ => ⟨by simp [V.flat, V.flatA, V.flatC, D.flat], (flat_cons (by simp [AObj.flat, V.flatC, D.flat]) flat_nil)⟩) ⟨rfl, rfl, rfl⟩
  · have h := if_f h hc7
    refine aw_skip ?_
    refine aw_hk1 (ι := Int) (fun v14 => St.of [(0, .ptr 0 0), (1, .d (.int .i64 size_)), (5, .d (.int .i64 v14))] [.box [.d (.str (bstr e_.text)), .d (.int .i64 e_.at_), .d (.bool e_.fine)]] f108.ntmps 1) (fun v14 => m_spec_l10Eyes_word_j1 n e_ size_ v14 = some r) ?_ (fun hk15 => ?_)
    · rintro v14 h
      replace h : m_spec_l10Eyes_word_j1 n e_ size_ v14 = some r := h
      unfold m_spec_l10Eyes_word_j1 at h
      refine aw_seq ?_
      refine aw_region ?_
      refine awl_val hτ rfl rfl rfl ?_
      refine awl_val hτ rfl rfl rfl ?_
      refine awl_val hτ rfl rfl rfl ?_
      refine awl_val hτ rfl rfl rfl ?_
      refine awl_val hτ rfl rfl rfl ?_
      refine awl_val hτ rfl rfl rfl ?_
      refine awl_val hτ rfl rfl rfl ?_
      refine awl_val hτ rfl rfl rfl ?_
      refine awl_valH hτ rfl rfl rfl ?_
      refine awl_nil ?_
      refine aw_seq ?_
      refine aw_weak (weak_ofP [0] (l := [(5, .d (.int .i64 v14))]) (objs := [.box [.d (.str (bstr e_.text)), .d (.int .i64 (w64 (e_.at_ + size_))), .d (.bool e_.fine)]]) rfl (by simp) rfl (by repeat' first | exact trivial | refine ⟨?_, ?_⟩) ⟨rfl, trivial, trivial⟩) ?_
      refine aw_region ?_
      refine awl_val hτ rfl rfl rfl ?_
      refine awl_val hτ rfl rfl rfl ?_
      refine awl_nil ?_
      refine aw_weak (weak_ofP [0] (l := [(4, .d (.int .i64 v14))]) (objs := [.box [.d (.str (bstr e_.text)), .d (.int .i64 (w64 (e_.at_ + size_))), .d (.bool e_.fine)]]) rfl (by simp) rfl (by repeat' first | exact trivial | refine ⟨?_, ?_⟩) ⟨rfl, trivial, trivial⟩) ?_
      refine aw_ret ?_
      have hr := Option.some.inj h
      subst hr
      exact ret_objs (.inr rfl) [] (objs' := [.box [.d (.str (bstr e_.text)), .d (.int .i64 (w64 (e_.at_ + size_))), .d (.bool e_.fine)]]) (new := []) rfl (by simp) (by simp) rfl (by repeat' first | exact trivial | refine ⟨?_, ?_⟩) rfl rfl (by repeat' first | exact trivial | refine ⟨?_, ?_⟩) (fun _ => ⟨by simp [V.flat, V.flatA, V.flatC, D.flat], (flat_cons (by simp [AObj.flat, V.flatC, D.flat]) flat_nil)⟩) ⟨rfl, rfl, rfl⟩
    · refine aw_seq ?_
      refine aw_seq ?_
      refine aw_region ?_
      refine awl_val hτ rfl rfl rfl ?_
      refine awl_val hτ rfl rfl rfl ?_
      refine awl_val hτ rfl rfl rfl ?_
      refine awl_nil ?_
      refine aw_block ?_
      refine aw_loop (ι := Nat × Int × Int) (fun (m22, v17, v18) => St.of [(0, .ptr 0 0), (1, .d (.int .i64 size_)), (5, .d (.int .i64 v17)), (6, .d (.int .i64 v18))] [.box [.d (.str (bstr e_.text)), .d (.int .i64 e_.at_), .d (.bool e_.fine)]] f108.ntmps 1) (fun (m22, v17, v18) => m_spec_l10Eyes_word_l2 n e_ size_ m22 v17 v18 = some r) (fun x => x.1) (n, (0 : Int), (w64 (size_ - (1 : Int)))) h (weak_ofP [0] (l := [(0, .ptr 0 0), (1, .d (.int .i64 size_)), (5, .d (.int .i64 (0 : Int))), (6, .d (.int .i64 (w64 (size_ - (1 : Int)))))]) (objs := [.box [.d (.str (bstr e_.text)), .d (.int .i64 e_.at_), .d (.bool e_.fine)]]) rfl (by simp) rfl (by repeat' first | exact trivial | refine ⟨?_, ?_⟩) ⟨rfl, trivial, rfl, trivial, rfl, trivial, rfl, trivial, trivial⟩) ?_
      rintro ⟨m22, v17, v18⟩ h
      replace h : m_spec_l10Eyes_word_l2 n e_ size_ m22 v17 v18 = some r := h
      rcases m22 with _ | m22
      · rw [m_spec_l10Eyes_word_l2] at h; cases h
      rw [m_spec_l10Eyes_word_l2] at h
      refine aw_seq ?_
      refine aw_seq ?_
      refine aw_region ?_
      refine awl_val hτ rfl rfl rfl ?_
      refine awl_val hτ rfl rfl rfl ?_
      refine awl_nil ?_
      refine aw_cond rfl (fun hc24 => ?_) (fun hc24 => ?_)
      · have h := if_t h hc24
        refine aw_skip ?_
        refine aw_seq ?_
        refine aw_block ?_
        refine any_start ?_
        refine any_val hτ [] 0 rfl rfl rfl rfl rfl ?_
        refine any_need hτ [] 1 rfl rfl rfl rfl rfl (by decide) ?_
        refine any_val hτ [] 2 rfl rfl rfl rfl rfl ?_
        refine any_val hτ [] 3 rfl rfl rfl rfl rfl ?_
        refine any_val hτ [0] 4 rfl rfl rfl rfl rfl ?_
        refine any_val hτ [0] 5 rfl rfl rfl rfl rfl ?_
        refine any_val hτ [] 6 rfl rfl rfl rfl rfl ?_
        refine any_val hτ [] 7 rfl rfl rfl rfl rfl ?_
        refine any_val hτ [0] 8 rfl rfl rfl rfl rfl ?_
        refine any_val hτ [0] 9 rfl rfl rfl rfl rfl ?_
        refine any_val hτ [] 10 rfl rfl rfl rfl rfl ?_
        refine any_val hτ [] 11 rfl rfl rfl rfl rfl ?_
        refine bnd_elim h fun x25 hx25 h => ?_
        refine any_need hτ (v := .d (.int .u8 (x25.toNat : Int))) [] 12 rfl rfl rfl rfl (Eq.trans rfl (or_sidx hx25)) (sidx_need hx25) ?_
        refine any_val hτ [] 13 rfl rfl rfl rfl rfl ?_
        refine any_val hτ [] 14 rfl rfl rfl rfl rfl ?_
        refine any_val hτ [] 15 rfl rfl rfl rfl rfl ?_
        refine any_done mixed (by kernel_rfl) ?_
        refine aw_weak (weak_ofP [0] (l := [(0, .ptr 0 0), (1, .d (.int .i64 size_)), (5, .d (.int .i64 (ibits .or .i64 (w64 (v17 * 2 ^ min (8 : Int).toNat (IntKind.bits .i64))) (w64 ((x25.toNat : Int)))))), (6, .d (.int .i64 v18))]) (objs := [.box [.d (.str (bstr e_.text)), .d (.int .i64 e_.at_), .d (.bool e_.fine)]]) rfl (by simp) rfl (by repeat' first | exact trivial | refine ⟨?_, ?_⟩) ⟨rfl, trivial, rfl, trivial, rfl, trivial, rfl, trivial, trivial⟩) ?_
        refine aw_region ?_
        refine awl_val hτ rfl rfl rfl ?_
        refine awl_val hτ rfl rfl rfl ?_
        refine awl_val hτ rfl rfl rfl ?_
        refine awl_nil ?_
        exact ⟨(m22, (ibits .or .i64 (w64 (v17 * 2 ^ min (8 : Int).toNat (IntKind.bits .i64))) (w64 ((x25.toNat : Int)))), (w64 (v18 - (1 : Int)))), h, Nat.lt_succ_self m22, (weak_ofP [0] (l := [(0, .ptr 0 0), (1, .d (.int .i64 size_)), (5, .d (.int .i64 (ibits .or .i64 (w64 (v17 * 2 ^ min (8 : Int).toNat (IntKind.bits .i64))) (w64 ((x25.toNat : Int)))))), (6, .d (.int .i64 (w64 (v18 - (1 : Int)))))]) (objs := [.box [.d (.str (bstr e_.text)), .d (.int .i64 e_.at_), .d (.bool e_.fine)]]) rfl (by simp) rfl (by repeat' first | exact trivial | refine ⟨?_, ?_⟩) ⟨rfl, trivial, rfl, trivial, rfl, trivial, rfl, trivial, trivial⟩)⟩
      · have h := if_f h hc24
        refine aw_exit ?_
        refine aw_weak (weak_ofP [0] (l := [(0, .ptr 0 0), (1, .d (.int .i64 size_)), (5, .d (.int .i64 v17))]) (objs := [.box [.d (.str (bstr e_.text)), .d (.int .i64 e_.at_), .d (.bool e_.fine)]]) rfl (by simp) rfl (by repeat' first | exact trivial | refine ⟨?_, ?_⟩) ⟨rfl, trivial, rfl, trivial, rfl, trivial, trivial⟩) ?_
        exact hk15 v17 h
theorem spec_l10Eyes_word_ok (n : Nat) (e_ : SL10Eyes) (size_ : Int) {r : Int × SL10Eyes} (h : m_spec_l10Eyes_word n e_ size_ = some r) : ACall prog false 108 [.ptr 0 0, .d (.int .i64 size_)] [.box [.d (.str (bstr e_.text)), .d (.int .i64 e_.at_), .d (.bool e_.fine)]] (fun v o new => v = .d (.int .i64 r.1) ∧ o = [.box [.d (.str (bstr r.2.text)), .d (.int .i64 r.2.at_), .d (.bool r.2.fine)]] ∧ new = []) := spec_l10Eyes_word_ok_fr0 false n e_ size_ h
theorem spec_l10Eyes_word_ok_fr (n : Nat) (e_ : SL10Eyes) (size_ : Int) {r : Int × SL10Eyes} (h : m_spec_l10Eyes_word n e_ size_ = some r) : ACall prog true 108 [.ptr 0 0, .d (.int .i64 size_)] [.box [.d (.str (bstr e_.text)), .d (.int .i64 e_.at_), .d (.bool e_.fine)]] (fun v o new => v = .d (.int .i64 r.1) ∧ o = [.box [.d (.str (bstr r.2.text)), .d (.int .i64 r.2.at_), .d (.bool r.2.fine)]] ∧ new = []) := spec_l10Eyes_word_ok_fr0 true n e_ size_ h

def m_spec_l01From (n : Nat) (n_ : Int) : Option Nat :=
  grd ((IntKind.wrap .u32 (n_)).toNat < 4294967296) <|
  some (canon .f32 (IntKind.wrap .u32 (n_)).toNat)
theorem spec_l01From_ok_fr0 (fr : Bool) (n : Nat) (n_ : Int) {r : Nat} (h : m_spec_l01From n n_ = some r) : ACall prog fr 138 [.d (.int .i64 n_)] [] (fun v o new => v = .d (.fl .f32 r) ∧ o = [] ∧ new = []) := by
  refine acall_of_aw hτ func138 rfl (by simp) (by simp) ?_
  unfold m_spec_l01From at h
  refine aw_seq ?_
  refine aw_region ?_
  refine awl_val hτ rfl rfl rfl ?_
  refine awl_nil ?_
  refine aw_seq ?_
  refine aw_region ?_
  refine awl_val hτ rfl rfl rfl ?_
  refine awl_val hτ rfl rfl rfl ?_
  refine grd_elim h fun hg2 h => ?_
  refine awl_ext hτ rfl rfl rfl (ext146 hg2) ?_
  refine awl_val hτ rfl rfl rfl ?_
  refine awl_nil ?_
  refine aw_weak (weak_ofP [] (l := [(2, .d (.fl .f32 (canon .f32 (IntKind.wrap .u32 (n_)).toNat)))]) (objs := []) rfl (by simp) rfl (by repeat' first | exact trivial | refine ⟨?_, ?_⟩) ⟨rfl, trivial, trivial⟩) ?_
  refine aw_ret ?_
  have hr := Option.some.inj h
  subst hr
  exact ret_objs (.inr rfl) [] (objs' := []) (new := []) rfl (by simp) (by simp) rfl (by repeat' first | exact trivial | refine ⟨?_, ?_⟩) rfl rfl (by repeat' first | exact trivial | refine ⟨?_, ?_⟩) (fun _ => ⟨by simp [V.flat, V.flatA, V.flatC, D.flat], flat_nil⟩) ⟨rfl, rfl, rfl⟩
theorem spec_l01From_ok (n : Nat) (n_ : Int) {r : Nat} (h : m_spec_l01From n n_ = some r) : ACall prog false 138 [.d (.int .i64 n_)] [] (fun v o new => v = .d (.fl .f32 r) ∧ o = [] ∧ new = []) := spec_l01From_ok_fr0 false n n_ h
theorem spec_l01From_ok_fr (n : Nat) (n_ : Int) {r : Nat} (h : m_spec_l01From n n_ = some r) : ACall prog true 138 [.d (.int .i64 n_)] [] (fun v o new => v = .d (.fl .f32 r) ∧ o = [] ∧ new = []) := spec_l01From_ok_fr0 true n n_ h

def m_spec_l10Eyes_number (n : Nat) (e_ : SL10Eyes) : Option (Cx × SL10Eyes) :=
  (m_spec_l10Eyes_word n e_ (4 : Int)).bind fun x5 =>
  (m_spec_l10Eyes_word n x5.2 (4 : Int)).bind fun x6 =>
  (m_spec_l01From n x5.1).bind fun x7 =>
  (m_spec_l01From n x6.1).bind fun x8 =>
  some ((Cx.mk x7 x8), x6.2)
theorem spec_l10Eyes_number_ok_fr0 (fr : Bool) (n : Nat) (e_ : SL10Eyes) {r : Cx × SL10Eyes} (h : m_spec_l10Eyes_number n e_ = some r) : ACall prog fr 130 [.ptr 0 0] [.box [.d (.str (bstr e_.text)), .d (.int .i64 e_.at_), .d (.bool e_.fine)]] (fun v o new => v = .d (.cx .f32 r.1.re r.1.im) ∧ o = [.box [.d (.str (bstr r.2.text)), .d (.int .i64 r.2.at_), .d (.bool r.2.fine)]] ∧ new = []) := by
  refine acall_of_aw hτ func130 rfl (by simp) (by simp) ?_
  unfold m_spec_l10Eyes_number at h
  refine aw_seq ?_
  refine aw_region ?_
  refine awl_val hτ rfl rfl rfl ?_
  refine awl_nil ?_
  refine aw_seq ?_
  refine aw_region ?_
  refine awl_val hτ rfl rfl rfl ?_
  refine bnd_elim h fun x5 hx5 h => ?_
  refine awl_callP hτ false [0] rfl rfl rfl (enterOk func108 rfl rfl) rfl rfl (by simp) ⟨trivial, trivial, trivial⟩ (by repeat' first | exact trivial | refine ⟨?_, ?_⟩) (spec_l10Eyes_word_ok n e_ (4 : Int) hx5) ?_
  rintro r0 o0 n0 ⟨rfl, rfl, rfl⟩ -
  refine awl_val hτ rfl rfl rfl ?_
  refine awl_nil ?_
  refine aw_seq ?_
  refine aw_region ?_
  refine awl_val hτ rfl rfl rfl ?_
  refine bnd_elim h fun x6 hx6 h => ?_
  refine awl_callP hτ false [0] rfl rfl rfl (enterOk func108 rfl rfl) rfl rfl (by simp) ⟨trivial, trivial, trivial⟩ (by repeat' first | exact trivial | refine ⟨?_, ?_⟩) (spec_l10Eyes_word_ok n x5.2 (4 : Int) hx6) ?_
  rintro r0 o0 n0 ⟨rfl, rfl, rfl⟩ -
  refine awl_val hτ rfl rfl rfl ?_
  refine awl_nil ?_
  refine aw_seq ?_
  refine aw_weak (weak_ofP [0] (l := [(3, .d (.int .i64 x5.1)), (4, .d (.int .i64 x6.1))]) (objs := [.box [.d (.str (bstr x6.2.text)), .d (.int .i64 x6.2.at_), .d (.bool x6.2.fine)]]) rfl (by simp) rfl (by repeat' first | exact trivial | refine ⟨?_, ?_⟩) ⟨rfl, trivial, rfl, trivial, trivial⟩) ?_
  refine aw_region ?_
  refine awl_val hτ rfl rfl rfl ?_
  refine bnd_elim h fun x7 hx7 h => ?_
  refine awl_callP hτ false [] rfl rfl rfl (enterOk func138 rfl rfl) rfl rfl (by simp) ⟨trivial, trivial⟩ (by repeat' first | exact trivial | refine ⟨?_, ?_⟩) (spec_l01From_ok n x5.1 hx7) ?_
  rintro r0 o0 n0 ⟨rfl, rfl, rfl⟩ -
  refine awl_val hτ rfl rfl rfl ?_
  refine bnd_elim h fun x8 hx8 h => ?_
  refine awl_callP hτ false [] rfl rfl rfl (enterOk func138 rfl rfl) rfl rfl (by simp) ⟨trivial, trivial⟩ (by repeat' first | exact trivial | refine ⟨?_, ?_⟩) (spec_l01From_ok n x6.1 hx8) ?_
  rintro r0 o0 n0 ⟨rfl, rfl, rfl⟩ -
  refine awl_val hτ rfl rfl rfl ?_
  refine awl_val hτ rfl rfl rfl ?_
  refine awl_nil ?_
  refine aw_weak (weak_ofP [0] (l := [(2, .d (.cx .f32 x7 x8))]) (objs := [.box [.d (.str (bstr x6.2.text)), .d (.int .i64 x6.2.at_), .d (.bool x6.2.fine)]]) rfl (by simp) rfl (by repeat' first | exact trivial | refine ⟨?_, ?_⟩) ⟨rfl, trivial, trivial⟩) ?_
  refine aw_ret ?_
  have hr := Option.some.inj h
  subst hr
  exact ret_objs (.inr rfl) [] (objs' := [.box [.d (.str (bstr x6.2.text)), .d (.int .i64 x6.2.at_), .d (.bool x6.2.fine)]]) (new := []) rfl (by simp) (by simp) rfl (by repeat' first | exact trivial | refine ⟨?_, ?_⟩) rfl rfl (by repeat' first | exact trivial | refine ⟨?_, ?_⟩) (fun _ => ⟨by simp [V.flat, V.flatA, V.flatC, D.flat], (flat_cons (by simp [AObj.flat, V.flatC, D.flat]) flat_nil)⟩) ⟨rfl, rfl, rfl⟩
theorem spec_l10Eyes_number_ok (n : Nat) (e_ : SL10Eyes) {r : Cx × SL10Eyes} (h : m_spec_l10Eyes_number n e_ = some r) : ACall prog false 130 [.ptr 0 0] [.box [.d (.str (bstr e_.text)), .d (.int .i64 e_.at_), .d (.bool e_.fine)]] (fun v o new => v = .d (.cx .f32 r.1.re r.1.im) ∧ o = [.box [.d (.str (bstr r.2.text)), .d (.int .i64 r.2.at_), .d (.bool r.2.fine)]] ∧ new = []) := spec_l10Eyes_number_ok_fr0 false n e_ h
theorem spec_l10Eyes_number_ok_fr (n : Nat) (e_ : SL10Eyes) {r : Cx × SL10Eyes} (h : m_spec_l10Eyes_number n e_ = some r) : ACall prog true 130 [.ptr 0 0] [.box [.d (.str (bstr e_.text)), .d (.int .i64 e_.at_), .d (.bool e_.fine)]] (fun v o new => v = .d (.cx .f32 r.1.re r.1.im) ∧ o = [.box [.d (.str (bstr r.2.text)), .d (.int .i64 r.2.at_), .d (.bool r.2.fine)]] ∧ new = []) := spec_l10Eyes_number_ok_fr0 true n e_ h

def m_spec_l10Eyes_phases (n : Nat) (e_ : SL10Eyes) : Option (SPhases × SL10Eyes) :=
  (m_spec_l10Eyes_number n e_).bind fun x4 =>
  (m_spec_l10Eyes_number n x4.2).bind fun x5 =>
  (m_spec_l10Eyes_number n x5.2).bind fun x6 =>
  some ((SPhases.mk x4.1 x5.1 x6.1), x6.2)
theorem spec_l10Eyes_phases_ok_fr0 (fr : Bool) (n : Nat) (e_ : SL10Eyes) {r : SPhases × SL10Eyes} (h : m_spec_l10Eyes_phases n e_ = some r) : ACall prog fr 109 [.ptr 0 0] [.box [.d (.str (bstr e_.text)), .d (.int .i64 e_.at_), .d (.bool e_.fine)]] (fun v o new => v = .agg [.d (.cx .f32 r.1.A.re r.1.A.im), .d (.cx .f32 r.1.B.re r.1.B.im), .d (.cx .f32 r.1.C.re r.1.C.im)] ∧ o = [.box [.d (.str (bstr r.2.text)), .d (.int .i64 r.2.at_), .d (.bool r.2.fine)]] ∧ new = []) := by
  refine acall_of_aw hτ func109 rfl (by simp) (by simp) ?_
  unfold m_spec_l10Eyes_phases at h
  refine aw_seq ?_
  refine aw_region ?_
  refine awl_valH hτ rfl rfl rfl ?_
  refine awl_nil ?_
  refine aw_seq ?_
  refine aw_region ?_
  refine awl_val hτ rfl rfl rfl ?_
  refine bnd_elim h fun x4 hx4 h => ?_
  refine awl_callP hτ false [0] rfl rfl rfl (enterOk func130 rfl rfl) rfl rfl (by simp) ⟨trivial, trivial⟩ (by repeat' first | exact trivial | refine ⟨?_, ?_⟩) (spec_l10Eyes_number_ok n e_ hx4) ?_
  rintro r0 o0 n0 ⟨rfl, rfl, rfl⟩ -
  refine awl_val hτ rfl rfl rfl ?_
  refine awl_valH hτ rfl rfl rfl ?_
  refine awl_valH hτ rfl rfl rfl ?_
  refine awl_nil ?_
  refine aw_seq ?_
  refine aw_weak (weak_ofP [0, 1, 2] (l := [(0, .ptr 0 0), (2, .ptr 1 0), (3, .ptr 2 0)]) (objs := [.box [.d (.str (bstr x4.2.text)), .d (.int .i64 x4.2.at_), .d (.bool x4.2.fine)], .box [.d (.cx .f32 (0 : Nat) (0 : Nat)), .d (.cx .f32 (0 : Nat) (0 : Nat)), .d (.cx .f32 (0 : Nat) (0 : Nat))], .box [.d (.cx .f32 x4.1.re x4.1.im), .d (.cx .f32 (0 : Nat) (0 : Nat)), .d (.cx .f32 (0 : Nat) (0 : Nat))]]) rfl (by simp) rfl (by repeat' first | exact trivial | refine ⟨?_, ?_⟩) ⟨rfl, trivial, rfl, trivial, rfl, trivial, trivial⟩) ?_
  refine aw_region ?_
  refine awl_val hτ rfl rfl rfl ?_
  refine bnd_elim h fun x5 hx5 h => ?_
  refine awl_callP hτ false [0] rfl rfl rfl (enterOk func130 rfl rfl) rfl rfl (by simp) ⟨trivial, trivial⟩ (by repeat' first | exact trivial | refine ⟨?_, ?_⟩) (spec_l10Eyes_number_ok n x4.2 hx5) ?_
  rintro r0 o0 n0 ⟨rfl, rfl, rfl⟩ -
  refine awl_val hτ rfl rfl rfl ?_
  refine awl_valH hτ rfl rfl rfl ?_
  refine awl_nil ?_
  refine aw_seq ?_
  refine aw_region ?_
  refine awl_val hτ rfl rfl rfl ?_
  refine bnd_elim h fun x6 hx6 h => ?_
  refine awl_callP hτ false [0] rfl rfl rfl (enterOk func130 rfl rfl) rfl rfl (by simp) ⟨trivial, trivial⟩ (by repeat' first | exact trivial | refine ⟨?_, ?_⟩) (spec_l10Eyes_number_ok n x5.2 hx6) ?_
  rintro r0 o0 n0 ⟨rfl, rfl, rfl⟩ -
  refine awl_val hτ rfl rfl rfl ?_
  refine awl_valH hτ rfl rfl rfl ?_
  refine awl_nil ?_
  refine aw_seq ?_
  refine aw_weak (weak_ofP [0, 1, 2] (l := [(2, .ptr 1 0), (3, .ptr 2 0)]) (objs := [.box [.d (.str (bstr x6.2.text)), .d (.int .i64 x6.2.at_), .d (.bool x6.2.fine)], .box [.d (.cx .f32 (0 : Nat) (0 : Nat)), .d (.cx .f32 (0 : Nat) (0 : Nat)), .d (.cx .f32 (0 : Nat) (0 : Nat))], .box [.d (.cx .f32 x4.1.re x4.1.im), .d (.cx .f32 x5.1.re x5.1.im), .d (.cx .f32 x6.1.re x6.1.im)]]) rfl (by simp) rfl (by repeat' first | exact trivial | refine ⟨?_, ?_⟩) ⟨rfl, trivial, rfl, trivial, trivial⟩) ?_
  refine aw_region ?_
  refine awl_val hτ rfl rfl rfl ?_
  refine awl_valH hτ rfl rfl rfl ?_
  refine awl_nil ?_
  refine aw_weak (weak_ofP [0, 1] (l := [(2, .ptr 1 0)]) (objs := [.box [.d (.str (bstr x6.2.text)), .d (.int .i64 x6.2.at_), .d (.bool x6.2.fine)], .box [.d (.cx .f32 x4.1.re x4.1.im), .d (.cx .f32 x5.1.re x5.1.im), .d (.cx .f32 x6.1.re x6.1.im)]]) rfl (by simp) rfl (by repeat' first | exact trivial | refine ⟨?_, ?_⟩) ⟨rfl, trivial, trivial⟩) ?_
  refine aw_ret ?_
  have hr := Option.some.inj h
  subst hr
  exact ret_objs (.inr rfl) [] (objs' := [.box [.d (.str (bstr x6.2.text)), .d (.int .i64 x6.2.at_), .d (.bool x6.2.fine)]]) (new := []) rfl (by simp) (by simp) rfl (by repeat' first | exact trivial | refine ⟨?_, ?_⟩) rfl rfl (by repeat' first | exact trivial | refine ⟨?_, ?_⟩) (fun _ => ⟨by simp [V.flat, V.flatA, V.flatC, D.flat], (flat_cons (by simp [AObj.flat, V.flatC, D.flat]) flat_nil)⟩) ⟨rfl, rfl, rfl⟩
theorem spec_l10Eyes_phases_ok (n : Nat) (e_ : SL10Eyes) {r : SPhases × SL10Eyes} (h : m_spec_l10Eyes_phases n e_ = some r) : ACall prog false 109 [.ptr 0 0] [.box [.d (.str (bstr e_.text)), .d (.int .i64 e_.at_), .d (.bool e_.fine)]] (fun v o new => v = .agg [.d (.cx .f32 r.1.A.re r.1.A.im), .d (.cx .f32 r.1.B.re r.1.B.im), .d (.cx .f32 r.1.C.re r.1.C.im)] ∧ o = [.box [.d (.str (bstr r.2.text)), .d (.int .i64 r.2.at_), .d (.bool r.2.fine)]] ∧ new = []) := spec_l10Eyes_phases_ok_fr0 false n e_ h
theorem spec_l10Eyes_phases_ok_fr (n : Nat) (e_ : SL10Eyes) {r : SPhases × SL10Eyes} (h : m_spec_l10Eyes_phases n e_ = some r) : ACall prog true 109 [.ptr 0 0] [.box [.d (.str (bstr e_.text)), .d (.int .i64 e_.at_), .d (.bool e_.fine)]] (fun v o new => v = .agg [.d (.cx .f32 r.1.A.re r.1.A.im), .d (.cx .f32 r.1.B.re r.1.B.im), .d (.cx .f32 r.1.C.re r.1.C.im)] ∧ o = [.box [.d (.str (bstr r.2.text)), .d (.int .i64 r.2.at_), .d (.bool r.2.fine)]] ∧ new = []) := spec_l10Eyes_phases_ok_fr0 true n e_ h

def m_spec_l10Word_j1 (n : Nat) (v17 : List Int) : Option Str :=
  some (chars v17)
def m_spec_l10Word_l2 (n : Nat) (n_ : Int) (size_ : Int) : Nat → List Int → Int → Option Str
  | 0, _, _ => none
  | m27 + 1, v21, v22 =>
    if v22 < size_ then
      grd (0 ≤ (IntKind.wrap .u64 ((w64 ((8 : Int) * v22))))) <|
      grd (room (v21.length + 1) 1) <|
      (m_spec_l10Word_l2 n n_ size_ m27) (v21 ++ [(IntKind.wrap .u8 ((ibits .and .i64 (n_.fdiv (2 ^ min (IntKind.wrap .u64 ((w64 ((8 : Int) * v22)))).toNat (IntKind.bits .i64))) (255 : Int))))]) (w64 (v22 + (1 : Int)))
    else
      m_spec_l10Word_j1 n v21
def m_spec_l10Word (n : Nat) (n_ : Int) (size_ : Int) : Option Str :=
  m_spec_l10Word_l2 n n_ size_ n ([] : List Int) (0 : Int)
theorem spec_l10Word_ok_fr0 (fr : Bool) (n : Nat) (n_ : Int) (size_ : Int) {r : Str} (h : m_spec_l10Word n n_ size_ = some r) : ACall prog fr 131 [.d (.int .i64 n_), .d (.int .i64 size_)] [] (fun v o new => v = .d (.str (bstr r)) ∧ o = [] ∧ new = []) := by
  refine acall_of_aw hτ func131 rfl (by simp) (by simp) ?_
  unfold m_spec_l10Word at h
  refine aw_seq ?_
  refine aw_region ?_
  refine awl_val hτ rfl rfl rfl ?_
  refine awl_nil ?_
  refine aw_seq ?_
  refine aw_region ?_
  refine awl_valH hτ rfl rfl rfl ?_
  refine awl_val hτ rfl rfl rfl ?_
  refine awl_nil ?_
  refine aw_hk1 (ι := List Int) (fun v17 => St.of [(5, .row 0 v17.length 0 v17.length)] [.row 1 (v17.map eIntu8)] f131.ntmps 0) (fun v17 => m_spec_l10Word_j1 n v17 = some r) ?_ (fun hk18 => ?_)
  · rintro v17 h
    replace h : m_spec_l10Word_j1 n v17 = some r := h
    unfold m_spec_l10Word_j1 at h
    refine aw_seq ?_
    refine aw_region ?_
    refine awl_val hτ rfl rfl rfl ?_
    refine awl_x rfl rfl (x_b2s hτ (f := eIntu8) (l := v17) rfl rfl rfl rfl rfl rfl rfl (fun _ => rfl) (slice_row v17 rfl rfl) ⟨len_map _, by omega⟩) ?_
    refine awl_val hτ rfl rfl rfl ?_
    refine awl_nil ?_
    refine aw_weak (weak_ofP [] (l := [(4, .d (.str (bstr (chars v17))))]) (objs := []) rfl (by simp) rfl (by repeat' first | exact trivial | refine ⟨?_, ?_⟩) ⟨rfl, trivial, trivial⟩) ?_
    refine aw_ret ?_
    have hr := Option.some.inj h
    subst hr
    exact ret_objs (.inr rfl) [] (objs' := []) (new := []) rfl (by simp) (by simp) rfl (by repeat' first | exact trivial | refine ⟨?_, ?_⟩) rfl rfl (by repeat' first | exact trivial | refine ⟨?_, ?_⟩) (fun _ => ⟨by simp [V.flat, V.flatA, V.flatC, D.flat], flat_nil⟩) ⟨rfl, rfl, rfl⟩
  · refine aw_seq ?_
    refine aw_seq ?_
    refine aw_region ?_
    refine awl_val hτ rfl rfl rfl ?_
    refine awl_nil ?_
    refine aw_block ?_
    refine aw_loop (ι := Nat × List Int × Int) (fun (m27, v21, v22) => St.of [(0, .d (.int .i64 n_)), (1, .d (.int .i64 size_)), (5, .row 0 v21.length 0 v21.length), (6, .d (.int .i64 v22))] [.row 1 (v21.map eIntu8)] f131.ntmps 0) (fun (m27, v21, v22) => m_spec_l10Word_l2 n n_ size_ m27 v21 v22 = some r) (fun x => x.1) (n, ([] : List Int), (0 : Int)) h (weak_ofP [0] (l := [(0, .d (.int .i64 n_)), (1, .d (.int .i64 size_)), (5, .row 0 (([] : List Int).length) 0 (([] : List Int).length)), (6, .d (.int .i64 (0 : Int)))]) (objs := [.row 1 (([] : List Int).map eIntu8)]) rfl (by simp) rfl (by repeat' first | exact trivial | refine ⟨?_, ?_⟩) ⟨rfl, trivial, rfl, trivial, rfl, trivial, rfl, trivial, trivial⟩) ?_
    rintro ⟨m27, v21, v22⟩ h
    replace h : m_spec_l10Word_l2 n n_ size_ m27 v21 v22 = some r := h
    rcases m27 with _ | m27
    · rw [m_spec_l10Word_l2] at h; cases h
    rw [m_spec_l10Word_l2] at h
    refine aw_seq ?_
    refine aw_seq ?_
    refine aw_region ?_
    refine awl_val hτ rfl rfl rfl ?_
    refine awl_val hτ rfl rfl rfl ?_
    refine awl_val hτ rfl rfl rfl ?_
    refine awl_nil ?_
    refine aw_cond rfl (fun hc29 => ?_) (fun hc29 => ?_)
    · have h := if_t h hc29
      refine aw_skip ?_
      refine aw_seq ?_
      refine aw_block ?_
      refine aw_region ?_
      refine awl_val hτ rfl rfl rfl ?_
      refine awl_val hτ rfl rfl rfl ?_
      refine awl_val hτ rfl rfl rfl ?_
      refine awl_val hτ rfl rfl rfl ?_
      refine awl_val hτ rfl rfl rfl ?_
      refine grd_elim h fun hg30 h => ?_
      refine awl_need hτ rfl rfl rfl hg30 ?_
      refine awl_val hτ rfl rfl rfl ?_
      refine awl_val hτ rfl rfl rfl ?_
      refine awl_valH hτ rfl rfl rfl ?_
      refine awl_weak (weak_ofP [0, 1] (l := [(0, .d (.int .i64 n_)), (1, .d (.int .i64 size_)), (5, .row 0 v21.length 0 v21.length), (6, .d (.int .i64 v22)), (13, .row 0 v21.length 0 v21.length), (21, .row 1 ([(IntKind.wrap .u8 ((ibits .and .i64 (n_.fdiv (2 ^ min (IntKind.wrap .u64 ((w64 ((8 : Int) * v22)))).toNat (IntKind.bits .i64))) (255 : Int))))].length) 0 ([(IntKind.wrap .u8 ((ibits .and .i64 (n_.fdiv (2 ^ min (IntKind.wrap .u64 ((w64 ((8 : Int) * v22)))).toNat (IntKind.bits .i64))) (255 : Int))))].length))]) (objs := [.row 1 (v21.map eIntu8), .row 1 ([(IntKind.wrap .u8 ((ibits .and .i64 (n_.fdiv (2 ^ min (IntKind.wrap .u64 ((w64 ((8 : Int) * v22)))).toNat (IntKind.bits .i64))) (255 : Int))))].map eIntu8)]) rfl (by simp) rfl (by repeat' first | exact trivial | refine ⟨?_, ?_⟩) ⟨rfl, trivial, rfl, trivial, rfl, trivial, rfl, trivial, rfl, trivial, rfl, trivial, trivial⟩) ?_
      refine grd_elim h fun hg31 h => ?_
      refine awl_needH hτ rfl rfl (Eq.trans rfl (or_append (f := eIntu8) v21 [(IntKind.wrap .u8 ((ibits .and .i64 (n_.fdiv (2 ^ min (IntKind.wrap .u64 ((w64 ((8 : Int) * v22)))).toNat (IntKind.bits .i64))) (255 : Int))))] rfl)) ⟨⟨rfl, Nat.le_of_ble_eq_true rfl⟩, len_map _, rfl, rfl, hg31, by decide, (all1 rfl)⟩ ?_
      refine awl_val hτ rfl rfl rfl ?_
      refine awl_nil ?_
      refine aw_region ?_
      refine awl_val hτ rfl rfl rfl ?_
      refine awl_val hτ rfl rfl rfl ?_
      refine awl_val hτ rfl rfl rfl ?_
      refine awl_nil ?_
      exact ⟨(m27, (v21 ++ [(IntKind.wrap .u8 ((ibits .and .i64 (n_.fdiv (2 ^ min (IntKind.wrap .u64 ((w64 ((8 : Int) * v22)))).toNat (IntKind.bits .i64))) (255 : Int))))]), (w64 (v22 + (1 : Int)))), h, Nat.lt_succ_self m27, (weak_ofP [0] (l := [(0, .d (.int .i64 n_)), (1, .d (.int .i64 size_)), (5, .row 0 ((v21 ++ [(IntKind.wrap .u8 ((ibits .and .i64 (n_.fdiv (2 ^ min (IntKind.wrap .u64 ((w64 ((8 : Int) * v22)))).toNat (IntKind.bits .i64))) (255 : Int))))]).length) 0 ((v21 ++ [(IntKind.wrap .u8 ((ibits .and .i64 (n_.fdiv (2 ^ min (IntKind.wrap .u64 ((w64 ((8 : Int) * v22)))).toNat (IntKind.bits .i64))) (255 : Int))))]).length)), (6, .d (.int .i64 (w64 (v22 + (1 : Int)))))]) (objs := [.row 1 ((v21 ++ [(IntKind.wrap .u8 ((ibits .and .i64 (n_.fdiv (2 ^ min (IntKind.wrap .u64 ((w64 ((8 : Int) * v22)))).toNat (IntKind.bits .i64))) (255 : Int))))]).map eIntu8)]) rfl (by simp) rfl (by repeat' first | exact trivial | refine ⟨?_, ?_⟩) ⟨rfl, trivial, rfl, trivial, rfl, trivial, rfl, trivial, trivial⟩)⟩
    · have h := if_f h hc29
      refine aw_exit ?_
      refine aw_weak (weak_ofP [0] (l := [(5, .row 0 v21.length 0 v21.length)]) (objs := [.row 1 (v21.map eIntu8)]) rfl (by simp) rfl (by repeat' first | exact trivial | refine ⟨?_, ?_⟩) ⟨rfl, trivial, trivial⟩) ?_
      exact hk18 v21 h
theorem spec_l10Word_ok (n : Nat) (n_ : Int) (size_ : Int) {r : Str} (h : m_spec_l10Word n n_ size_ = some r) : ACall prog false 131 [.d (.int .i64 n_), .d (.int .i64 size_)] [] (fun v o new => v = .d (.str (bstr r)) ∧ o = [] ∧ new = []) := spec_l10Word_ok_fr0 false n n_ size_ h
theorem spec_l10Word_ok_fr (n : Nat) (n_ : Int) (size_ : Int) {r : Str} (h : m_spec_l10Word n n_ size_ = some r) : ACall prog true 131 [.d (.int .i64 n_), .d (.int .i64 size_)] [] (fun v o new => v = .d (.str (bstr r)) ∧ o = [] ∧ new = []) := spec_l10Word_ok_fr0 true n n_ size_ h

def m_spec_l01Bits (n : Nat) (x_ : Nat) : Option Int :=
  if (fcmp .neq .f32 x_ x_) = true then
    some (2143289344 : Int)
  else
    grd (isnan .f32 x_ = false) <|
    some (w64 ((x_ : Int)))
theorem spec_l01Bits_ok_fr0 (fr : Bool) (n : Nat) (x_ : Nat) {r : Int} (h : m_spec_l01Bits n x_ = some r) : ACall prog fr 119 [.d (.fl .f32 x_)] [] (fun v o new => v = .d (.int .i64 r) ∧ o = [] ∧ new = []) := by
  refine acall_of_aw hτ func119 rfl (by simp) (by simp) ?_
  unfold m_spec_l01Bits at h
  refine aw_seq ?_
  refine aw_region ?_
  refine awl_val hτ rfl rfl rfl ?_
  refine awl_nil ?_
  refine aw_seq ?_
  refine aw_seq ?_
  refine aw_region ?_
  refine awl_val hτ rfl rfl rfl ?_
  refine awl_val hτ rfl rfl rfl ?_
  refine awl_val hτ rfl rfl rfl ?_
  refine awl_nil ?_
  refine aw_cond rfl (fun hc2 => ?_) (fun hc2 => ?_)
  · have h := if_bt h hc2
    refine aw_seq ?_
    refine aw_region ?_
    refine awl_val hτ rfl rfl rfl ?_
    refine awl_nil ?_
    refine aw_weak (weak_ofP [] (l := [(2, .d (.int .i64 (2143289344 : Int)))]) (objs := []) rfl (by simp) rfl (by repeat' first | exact trivial | refine ⟨?_, ?_⟩) ⟨rfl, trivial, trivial⟩) ?_
    refine aw_ret ?_
    have hr := Option.some.inj h
    subst hr
    exact ret_objs (.inr rfl) [] (objs' := []) (new := []) rfl (by simp) (by simp) rfl (by repeat' first | exact trivial | refine ⟨?_, ?_⟩) rfl rfl (by repeat' first | exact trivial | refine ⟨?_, ?_⟩) (fun _ => ⟨by simp [V.flat, V.flatA, V.flatC, D.flat], flat_nil⟩) ⟨rfl, rfl, rfl⟩
  · have h := if_bf h hc2
    refine aw_skip ?_
    refine aw_seq ?_
    refine aw_region ?_
    refine awl_val hτ rfl rfl rfl ?_
    refine grd_elim h fun hg3 h => ?_
    refine awl_ext hτ rfl rfl rfl (ext123 hg3) ?_
    refine awl_val hτ rfl rfl rfl ?_
    refine awl_val hτ rfl rfl rfl ?_
    refine awl_nil ?_
    refine aw_weak (weak_ofP [] (l := [(2, .d (.int .i64 (w64 ((x_ : Int)))))]) (objs := []) rfl (by simp) rfl (by repeat' first | exact trivial | refine ⟨?_, ?_⟩) ⟨rfl, trivial, trivial⟩) ?_
    refine aw_ret ?_
    have hr := Option.some.inj h
    subst hr
    exact ret_objs (.inr rfl) [] (objs' := []) (new := []) rfl (by simp) (by simp) rfl (by repeat' first | exact trivial | refine ⟨?_, ?_⟩) rfl rfl (by repeat' first | exact trivial | refine ⟨?_, ?_⟩) (fun _ => ⟨by simp [V.flat, V.flatA, V.flatC, D.flat], flat_nil⟩) ⟨rfl, rfl, rfl⟩
theorem spec_l01Bits_ok (n : Nat) (x_ : Nat) {r : Int} (h : m_spec_l01Bits n x_ = some r) : ACall prog false 119 [.d (.fl .f32 x_)] [] (fun v o new => v = .d (.int .i64 r) ∧ o = [] ∧ new = []) := spec_l01Bits_ok_fr0 false n x_ h
theorem spec_l01Bits_ok_fr (n : Nat) (x_ : Nat) {r : Int} (h : m_spec_l01Bits n x_ = some r) : ACall prog true 119 [.d (.fl .f32 x_)] [] (fun v o new => v = .d (.int .i64 r) ∧ o = [] ∧ new = []) := spec_l01Bits_ok_fr0 true n x_ h

def m_spec_l10Complex (n : Nat) (x_ : Cx) : Option Str :=
  (m_spec_l01Bits n x_.re).bind fun x6 =>
  (m_spec_l10Word n x6 (4 : Int)).bind fun x7 =>
  (m_spec_l01Bits n x_.im).bind fun x8 =>
  (m_spec_l10Word n x8 (4 : Int)).bind fun x9 =>
  grd (x7.length + x9.length ≤ 9223372036854775807) <|
  some (x7 ++ x9)
theorem spec_l10Complex_ok_fr0 (fr : Bool) (n : Nat) (x_ : Cx) {r : Str} (h : m_spec_l10Complex n x_ = some r) : ACall prog fr 141 [.d (.cx .f32 x_.re x_.im)] [] (fun v o new => v = .d (.str (bstr r)) ∧ o = [] ∧ new = []) := by
  refine acall_of_aw hτ func141 rfl (by simp) (by simp) ?_
  unfold m_spec_l10Complex at h
  refine aw_seq ?_
  refine aw_region ?_
  refine awl_val hτ rfl rfl rfl ?_
  refine awl_nil ?_
  refine aw_seq ?_
  refine aw_region ?_
  refine awl_val hτ rfl rfl rfl ?_
  refine awl_val hτ rfl rfl rfl ?_
  refine bnd_elim h fun x6 hx6 h => ?_
  refine awl_callP hτ false [] rfl rfl rfl (enterOk func119 rfl rfl) rfl rfl (by simp) ⟨trivial, trivial⟩ (by repeat' first | exact trivial | refine ⟨?_, ?_⟩) (spec_l01Bits_ok n x_.re hx6) ?_
  rintro r0 o0 n0 ⟨rfl, rfl, rfl⟩ -
  refine bnd_elim h fun x7 hx7 h => ?_
  refine awl_callP hτ false [] rfl rfl rfl (enterOk func131 rfl rfl) rfl rfl (by simp) ⟨trivial, trivial, trivial⟩ (by repeat' first | exact trivial | refine ⟨?_, ?_⟩) (spec_l10Word_ok n x6 (4 : Int) hx7) ?_
  rintro r0 o0 n0 ⟨rfl, rfl, rfl⟩ -
  refine awl_val hτ rfl rfl rfl ?_
  refine awl_val hτ rfl rfl rfl ?_
  refine bnd_elim h fun x8 hx8 h => ?_
  refine awl_callP hτ false [] rfl rfl rfl (enterOk func119 rfl rfl) rfl rfl (by simp) ⟨trivial, trivial⟩ (by repeat' first | exact trivial | refine ⟨?_, ?_⟩) (spec_l01Bits_ok n x_.im hx8) ?_
  rintro r0 o0 n0 ⟨rfl, rfl, rfl⟩ -
  refine bnd_elim h fun x9 hx9 h => ?_
  refine awl_callP hτ false [] rfl rfl rfl (enterOk func131 rfl rfl) rfl rfl (by simp) ⟨trivial, trivial, trivial⟩ (by repeat' first | exact trivial | refine ⟨?_, ?_⟩) (spec_l10Word_ok n x8 (4 : Int) hx9) ?_
  rintro r0 o0 n0 ⟨rfl, rfl, rfl⟩ -
  refine grd_elim h fun hg10 h => ?_
  refine awl_need hτ (v := .d (.str (bstr (x7 ++ x9)))) rfl rfl (Eq.trans rfl (or_cat _ _)) hg10 ?_
  refine awl_val hτ rfl rfl rfl ?_
  refine awl_nil ?_
  refine aw_weak (weak_ofP [] (l := [(2, .d (.str (bstr (x7 ++ x9))))]) (objs := []) rfl (by simp) rfl (by repeat' first | exact trivial | refine ⟨?_, ?_⟩) ⟨rfl, trivial, trivial⟩) ?_
  refine aw_ret ?_
  have hr := Option.some.inj h
  subst hr
  exact ret_objs (.inr rfl) [] (objs' := []) (new := []) rfl (by simp) (by simp) rfl (by repeat' first | exact trivial | refine ⟨?_, ?_⟩) rfl rfl (by repeat' first | exact trivial | refine ⟨?_, ?_⟩) (fun _ => ⟨by simp [V.flat, V.flatA, V.flatC, D.flat], flat_nil⟩) ⟨rfl, rfl, rfl⟩
theorem spec_l10Complex_ok (n : Nat) (x_ : Cx) {r : Str} (h : m_spec_l10Complex n x_ = some r) : ACall prog false 141 [.d (.cx .f32 x_.re x_.im)] [] (fun v o new => v = .d (.str (bstr r)) ∧ o = [] ∧ new = []) := spec_l10Complex_ok_fr0 false n x_ h
theorem spec_l10Complex_ok_fr (n : Nat) (x_ : Cx) {r : Str} (h : m_spec_l10Complex n x_ = some r) : ACall prog true 141 [.d (.cx .f32 x_.re x_.im)] [] (fun v o new => v = .d (.str (bstr r)) ∧ o = [] ∧ new = []) := spec_l10Complex_ok_fr0 true n x_ h

def m_spec_l10Phases (n : Nat) (p_ : SPhases) : Option Str :=
  (m_spec_l10Complex n p_.A).bind fun x6 =>
  (m_spec_l10Complex n p_.B).bind fun x7 =>
  grd (x6.length + x7.length ≤ 9223372036854775807) <|
  (m_spec_l10Complex n p_.C).bind fun x9 =>
  grd ((x6 ++ x7).length + x9.length ≤ 9223372036854775807) <|
  some ((x6 ++ x7) ++ x9)
theorem spec_l10Phases_ok_fr0 (fr : Bool) (n : Nat) (p_ : SPhases) {r : Str} (h : m_spec_l10Phases n p_ = some r) : ACall prog fr 132 [.agg [.d (.cx .f32 p_.A.re p_.A.im), .d (.cx .f32 p_.B.re p_.B.im), .d (.cx .f32 p_.C.re p_.C.im)]] [] (fun v o new => v = .d (.str (bstr r)) ∧ o = [] ∧ new = []) := by
  refine acall_of_aw hτ func132 rfl (by simp) (by simp) ?_
  unfold m_spec_l10Phases at h
  refine aw_seq ?_
  refine aw_region ?_
  refine awl_valH hτ rfl rfl rfl ?_
  refine awl_val hτ rfl rfl rfl ?_
  refine awl_nil ?_
  refine aw_seq ?_
  refine any_start ?_
  refine any_val hτ [0] 0 rfl rfl rfl rfl rfl ?_
  refine any_val hτ [0] 1 rfl rfl rfl rfl rfl ?_
  refine any_val hτ [0] 3 rfl rfl rfl rfl rfl ?_
  refine any_val hτ [0] 4 rfl rfl rfl rfl rfl ?_
  refine any_val hτ [0] 7 rfl rfl rfl rfl rfl ?_
  refine any_val hτ [0] 8 rfl rfl rfl rfl rfl ?_
  refine bnd_elim h fun x6 hx6 h => ?_
  refine any_callP hτ false [] [0] 2 rfl rfl rfl rfl (enterOk func141 rfl rfl) rfl rfl (by simp) ⟨trivial, trivial⟩ (by repeat' first | exact trivial | refine ⟨?_, ?_⟩) (spec_l10Complex_ok n p_.A hx6) ⟨rfl, trivial⟩ ?_
  refine bnd_elim h fun x7 hx7 h => ?_
  refine any_callP hτ false [] [0] 5 rfl rfl rfl rfl (enterOk func141 rfl rfl) rfl rfl (by simp) ⟨trivial, trivial⟩ (by repeat' first | exact trivial | refine ⟨?_, ?_⟩) (spec_l10Complex_ok n p_.B hx7) ⟨rfl, trivial⟩ ?_
  refine grd_elim h fun hg8 h => ?_
  refine any_need hτ (v := .d (.str (bstr (x6 ++ x7)))) [] 6 rfl rfl rfl rfl (Eq.trans rfl (or_cat _ _)) hg8 ?_
  refine bnd_elim h fun x9 hx9 h => ?_
  refine any_callP hτ false [] [0] 9 rfl rfl rfl rfl (enterOk func141 rfl rfl) rfl rfl (by simp) ⟨trivial, trivial⟩ (by repeat' first | exact trivial | refine ⟨?_, ?_⟩) (spec_l10Complex_ok n p_.C hx9) ⟨rfl, trivial⟩ ?_
  refine grd_elim h fun hg10 h => ?_
  refine any_need hτ (v := .d (.str (bstr ((x6 ++ x7) ++ x9)))) [] 10 rfl rfl rfl rfl (Eq.trans rfl (or_cat _ _)) hg10 ?_
  refine any_val hτ [] 11 rfl rfl rfl rfl rfl ?_
  refine any_done mixed (by kernel_rfl) ?_
  refine aw_weak (weak_ofP [] (l := [(2, .d (.str (bstr ((x6 ++ x7) ++ x9))))]) (objs := []) rfl (by simp) rfl (by repeat' first | exact trivial | refine ⟨?_, ?_⟩) ⟨rfl, trivial, trivial⟩) ?_
  refine aw_ret ?_
  have hr := Option.some.inj h
  subst hr
  exact ret_objs (.inr rfl) [] (objs' := []) (new := []) rfl (by simp) (by simp) rfl (by repeat' first | exact trivial | refine ⟨?_, ?_⟩) rfl rfl (by repeat' first | exact trivial | refine ⟨?_, ?_⟩) (fun _ => ⟨by simp [V.flat, V.flatA, V.flatC, D.flat], flat_nil⟩) ⟨rfl, rfl, rfl⟩
theorem spec_l10Phases_ok (n : Nat) (p_ : SPhases) {r : Str} (h : m_spec_l10Phases n p_ = some r) : ACall prog false 132 [.agg [.d (.cx .f32 p_.A.re p_.A.im), .d (.cx .f32 p_.B.re p_.B.im), .d (.cx .f32 p_.C.re p_.C.im)]] [] (fun v o new => v = .d (.str (bstr r)) ∧ o = [] ∧ new = []) := spec_l10Phases_ok_fr0 false n p_ h
theorem spec_l10Phases_ok_fr (n : Nat) (p_ : SPhases) {r : Str} (h : m_spec_l10Phases n p_ = some r) : ACall prog true 132 [.agg [.d (.cx .f32 p_.A.re p_.A.im), .d (.cx .f32 p_.B.re p_.B.im), .d (.cx .f32 p_.C.re p_.C.im)]] [] (fun v o new => v = .d (.str (bstr r)) ∧ o = [] ∧ new = []) := spec_l10Phases_ok_fr0 true n p_ h

def m_spec_l10Bytes_l2 (n : Nat) (f_ : SFlow) : Nat → Str → Int → Option Str
  | 0, _, _ => none
  | m42 + 1, v32, v33 =>
    if v33 < (f_.Voltages.length : Int) then
      (getI f_.Voltages v33).bind fun x45 =>
      (getI f_.Currents v33).bind fun x46 =>
      (m_spec_l10Phases n x45).bind fun x47 =>
      (m_spec_l10Phases n x46).bind fun x48 =>
      grd (x47.length + x48.length ≤ 9223372036854775807) <|
      grd (v32.length + (x47 ++ x48).length ≤ 9223372036854775807) <|
      (m_spec_l10Bytes_l2 n f_ m42) (v32 ++ (x47 ++ x48)) (w64 (v33 + (1 : Int)))
    else
      some v32
def m_spec_l10Bytes_j1 (n : Nat) (f_ : SFlow) (v22 : Int) : Option Str :=
  (m_spec_l10Word n f_.Rounds (1 : Int)).bind fun x23 =>
  (m_spec_l10Word n v22 (1 : Int)).bind fun x24 =>
  grd (x23.length + x24.length ≤ 9223372036854775807) <|
  m_spec_l10Bytes_l2 n f_ n (x23 ++ x24) (0 : Int)
def m_spec_l10Bytes (n : Nat) (f_ : SFlow) : Option Str :=
  if f_.Rests = true then
    m_spec_l10Bytes_j1 n f_ (1 : Int)
  else
    m_spec_l10Bytes_j1 n f_ (0 : Int)
theorem spec_l10Bytes_ok_fr0 (fr : Bool) (n : Nat) (f_ : SFlow) {r : Str} (h : m_spec_l10Bytes n f_ = some r) : ACall prog fr 110 [.ptr 0 0] [.box [.row 1 f_.Voltages.length 0 f_.Voltages.length, .row 2 f_.Currents.length 0 f_.Currents.length, .d (.int .i64 f_.Rounds), .d (.bool f_.Rests)], .row 3 (f_.Voltages.map eSPhases), .row 3 (f_.Currents.map eSPhases)] (fun v o new => v = .d (.str (bstr r)) ∧ o = [.box [.row 1 f_.Voltages.length 0 f_.Voltages.length, .row 2 f_.Currents.length 0 f_.Currents.length, .d (.int .i64 f_.Rounds), .d (.bool f_.Rests)], .row 3 (f_.Voltages.map eSPhases), .row 3 (f_.Currents.map eSPhases)] ∧ new = []) := by
  refine acall_of_aw hτ func110 rfl (by simp) (by simp) ?_
  unfold m_spec_l10Bytes at h
  refine aw_seq ?_
  refine aw_region ?_
  refine awl_val hτ rfl rfl rfl ?_
  refine awl_nil ?_
  refine aw_seq ?_
  refine aw_region ?_
  refine awl_val hτ rfl rfl rfl ?_
  refine awl_nil ?_
  refine aw_hk1 (ι := Int) (fun v22 => St.of [(0, .ptr 0 0), (3, .d (.int .i64 v22))] [.box [.row 1 f_.Voltages.length 0 f_.Voltages.length, .row 2 f_.Currents.length 0 f_.Currents.length, .d (.int .i64 f_.Rounds), .d (.bool f_.Rests)], .row 3 (f_.Voltages.map eSPhases), .row 3 (f_.Currents.map eSPhases)] f110.ntmps 3) (fun v22 => m_spec_l10Bytes_j1 n f_ v22 = some r) ?_ (fun hk51 => ?_)
  · rintro v22 h
    replace h : m_spec_l10Bytes_j1 n f_ v22 = some r := h
    unfold m_spec_l10Bytes_j1 at h
    refine aw_seq ?_
    refine aw_region ?_
    refine awl_val hτ rfl rfl rfl ?_
    refine awl_val hτ rfl rfl rfl ?_
    refine awl_val hτ rfl rfl rfl ?_
    refine awl_val hτ rfl rfl rfl ?_
    refine bnd_elim h fun x23 hx23 h => ?_
    refine awl_callP hτ false [] rfl rfl rfl (enterOk func131 rfl rfl) rfl rfl (by simp) ⟨trivial, trivial, trivial⟩ (by repeat' first | exact trivial | refine ⟨?_, ?_⟩) (spec_l10Word_ok n f_.Rounds (1 : Int) hx23) ?_
    rintro r0 o0 n0 ⟨rfl, rfl, rfl⟩ -
    refine awl_val hτ rfl rfl rfl ?_
    refine bnd_elim h fun x24 hx24 h => ?_
    refine awl_callP hτ false [] rfl rfl rfl (enterOk func131 rfl rfl) rfl rfl (by simp) ⟨trivial, trivial, trivial⟩ (by repeat' first | exact trivial | refine ⟨?_, ?_⟩) (spec_l10Word_ok n v22 (1 : Int) hx24) ?_
    rintro r0 o0 n0 ⟨rfl, rfl, rfl⟩ -
    refine grd_elim h fun hg25 h => ?_
    refine awl_need hτ (v := .d (.str (bstr (x23 ++ x24)))) rfl rfl (Eq.trans rfl (or_cat _ _)) hg25 ?_
    refine awl_val hτ rfl rfl rfl ?_
    refine awl_nil ?_
    refine aw_seq ?_
    refine aw_seq ?_
    refine aw_weak (weak_ofP [0, 1, 2] (l := [(0, .ptr 0 0), (4, .d (.str (bstr (x23 ++ x24))))]) (objs := [.box [.row 1 f_.Voltages.length 0 f_.Voltages.length, .row 2 f_.Currents.length 0 f_.Currents.length, .d (.int .i64 f_.Rounds), .d (.bool f_.Rests)], .row 3 (f_.Voltages.map eSPhases), .row 3 (f_.Currents.map eSPhases)]) rfl (by simp) rfl (by repeat' first | exact trivial | refine ⟨?_, ?_⟩) ⟨rfl, trivial, rfl, trivial, trivial⟩) ?_
    refine aw_region ?_
    refine awl_val hτ rfl rfl rfl ?_
    refine awl_nil ?_
    refine aw_block ?_
    refine aw_loop (ι := Nat × Str × Int) (fun (m42, v32, v33) => St.of [(0, .ptr 0 0), (4, .d (.str (bstr v32))), (5, .d (.int .i64 v33))] [.box [.row 1 f_.Voltages.length 0 f_.Voltages.length, .row 2 f_.Currents.length 0 f_.Currents.length, .d (.int .i64 f_.Rounds), .d (.bool f_.Rests)], .row 3 (f_.Voltages.map eSPhases), .row 3 (f_.Currents.map eSPhases)] f110.ntmps 3) (fun (m42, v32, v33) => m_spec_l10Bytes_l2 n f_ m42 v32 v33 = some r) (fun x => x.1) (n, (x23 ++ x24), (0 : Int)) h (weak_ofP [0, 1, 2] (l := [(0, .ptr 0 0), (4, .d (.str (bstr (x23 ++ x24)))), (5, .d (.int .i64 (0 : Int)))]) (objs := [.box [.row 1 f_.Voltages.length 0 f_.Voltages.length, .row 2 f_.Currents.length 0 f_.Currents.length, .d (.int .i64 f_.Rounds), .d (.bool f_.Rests)], .row 3 (f_.Voltages.map eSPhases), .row 3 (f_.Currents.map eSPhases)]) rfl (by simp) rfl (by repeat' first | exact trivial | refine ⟨?_, ?_⟩) ⟨rfl, trivial, rfl, trivial, rfl, trivial, trivial⟩) ?_
    rintro ⟨m42, v32, v33⟩ h
    replace h : m_spec_l10Bytes_l2 n f_ m42 v32 v33 = some r := h
    rcases m42 with _ | m42
    · rw [m_spec_l10Bytes_l2] at h; cases h
    rw [m_spec_l10Bytes_l2] at h
    refine aw_seq ?_
    refine aw_seq ?_
    refine aw_region ?_
    refine awl_val hτ rfl rfl rfl ?_
    refine awl_val hτ rfl rfl rfl ?_
    refine awl_val hτ rfl rfl rfl ?_
    refine awl_val hτ rfl rfl rfl ?_
    refine awl_val hτ rfl rfl rfl ?_
    refine awl_need hτ rfl rfl rfl (len_map _) ?_
    refine awl_val hτ rfl rfl rfl ?_
    refine awl_nil ?_
    refine aw_weak (weak_ofP [0, 1, 2] (l := [(0, .ptr 0 0), (4, .d (.str (bstr v32))), (5, .d (.int .i64 v33)), (24, .d (.bool (decide (v33 < (f_.Voltages.length : Int)))))]) (objs := [.box [.row 1 f_.Voltages.length 0 f_.Voltages.length, .row 2 f_.Currents.length 0 f_.Currents.length, .d (.int .i64 f_.Rounds), .d (.bool f_.Rests)], .row 3 (f_.Voltages.map eSPhases), .row 3 (f_.Currents.map eSPhases)]) rfl (by simp) rfl (by repeat' first | exact trivial | refine ⟨?_, ?_⟩) ⟨rfl, trivial, rfl, trivial, rfl, trivial, rfl, trivial, trivial⟩) ?_
    refine aw_cond rfl (fun hc44 => ?_) (fun hc44 => ?_)
    · have h := if_t h hc44
      refine aw_skip ?_
      refine aw_seq ?_
      refine aw_block ?_
      refine any_start ?_
      refine any_val hτ [] 0 rfl rfl rfl rfl rfl ?_
      refine any_val hτ [] 1 rfl rfl rfl rfl rfl ?_
      refine any_val hτ [] 2 rfl rfl rfl rfl rfl ?_
      refine any_val hτ [0] 3 rfl rfl rfl rfl rfl ?_
      refine any_val hτ [0] 4 rfl rfl rfl rfl rfl ?_
      refine any_val hτ [] 5 rfl rfl rfl rfl rfl ?_
      refine bnd_elim h fun x45 hx45 h => ?_
      refine any_need hτ [1] 6 rfl rfl rfl rfl rfl (row_need hx45) ?_
      refine any_elem hτ [1] 7 rfl rfl rfl rfl rfl (len_map _) (row_get hx45) rfl ?_
      refine any_val hτ [] 9 rfl rfl rfl rfl rfl ?_
      refine any_val hτ [] 10 rfl rfl rfl rfl rfl ?_
      refine any_val hτ [0] 11 rfl rfl rfl rfl rfl ?_
      refine any_val hτ [0] 12 rfl rfl rfl rfl rfl ?_
      refine any_val hτ [] 13 rfl rfl rfl rfl rfl ?_
      refine bnd_elim h fun x46 hx46 h => ?_
      refine any_need hτ [2] 14 rfl rfl rfl rfl rfl (row_need hx46) ?_
      refine any_elem hτ [2] 15 rfl rfl rfl rfl rfl (len_map _) (row_get hx46) rfl ?_
      refine bnd_elim h fun x47 hx47 h => ?_
      refine any_callP hτ false [] [0, 1, 2] 8 rfl rfl rfl rfl (enterOk func132 rfl rfl) rfl rfl (by simp) ⟨(by repeat' first | exact trivial | refine ⟨?_, ?_⟩), trivial⟩ (by repeat' first | exact trivial | refine ⟨?_, ?_⟩) (spec_l10Phases_ok n x45 hx47) ⟨rfl, rfl, rfl, trivial⟩ ?_
      refine bnd_elim h fun x48 hx48 h => ?_
      refine any_callP hτ false [] [0, 1, 2] 16 rfl rfl rfl rfl (enterOk func132 rfl rfl) rfl rfl (by simp) ⟨(by repeat' first | exact trivial | refine ⟨?_, ?_⟩), trivial⟩ (by repeat' first | exact trivial | refine ⟨?_, ?_⟩) (spec_l10Phases_ok n x46 hx48) ⟨rfl, rfl, rfl, trivial⟩ ?_
      refine grd_elim h fun hg49 h => ?_
      refine any_need hτ (v := .d (.str (bstr (x47 ++ x48)))) [] 17 rfl rfl rfl rfl (Eq.trans rfl (or_cat _ _)) hg49 ?_
      refine grd_elim h fun hg50 h => ?_
      refine any_need hτ (v := .d (.str (bstr (v32 ++ (x47 ++ x48))))) [] 18 rfl rfl rfl rfl (Eq.trans rfl (or_cat _ _)) hg50 ?_
      refine any_val hτ [] 19 rfl rfl rfl rfl rfl ?_
      refine any_done mixed (by kernel_rfl) ?_
      refine aw_weak (weak_ofP [0, 1, 2] (l := [(0, .ptr 0 0), (4, .d (.str (bstr (v32 ++ (x47 ++ x48))))), (5, .d (.int .i64 v33))]) (objs := [.box [.row 1 f_.Voltages.length 0 f_.Voltages.length, .row 2 f_.Currents.length 0 f_.Currents.length, .d (.int .i64 f_.Rounds), .d (.bool f_.Rests)], .row 3 (f_.Voltages.map eSPhases), .row 3 (f_.Currents.map eSPhases)]) rfl (by simp) rfl (by repeat' first | exact trivial | refine ⟨?_, ?_⟩) ⟨rfl, trivial, rfl, trivial, rfl, trivial, trivial⟩) ?_
      refine aw_region ?_
      refine awl_val hτ rfl rfl rfl ?_
      refine awl_val hτ rfl rfl rfl ?_
      refine awl_val hτ rfl rfl rfl ?_
      refine awl_nil ?_
      exact ⟨(m42, (v32 ++ (x47 ++ x48)), (w64 (v33 + (1 : Int)))), h, Nat.lt_succ_self m42, (weak_ofP [0, 1, 2] (l := [(0, .ptr 0 0), (4, .d (.str (bstr (v32 ++ (x47 ++ x48))))), (5, .d (.int .i64 (w64 (v33 + (1 : Int)))))]) (objs := [.box [.row 1 f_.Voltages.length 0 f_.Voltages.length, .row 2 f_.Currents.length 0 f_.Currents.length, .d (.int .i64 f_.Rounds), .d (.bool f_.Rests)], .row 3 (f_.Voltages.map eSPhases), .row 3 (f_.Currents.map eSPhases)]) rfl (by simp) rfl (by repeat' first | exact trivial | refine ⟨?_, ?_⟩) ⟨rfl, trivial, rfl, trivial, rfl, trivial, trivial⟩)⟩
    · have h := if_f h hc44
      refine aw_exit ?_
      refine aw_seq ?_
      refine aw_region ?_
      refine awl_val hτ rfl rfl rfl ?_
      refine awl_val hτ rfl rfl rfl ?_
      refine awl_nil ?_
      refine aw_weak (weak_ofP [0, 1, 2] (l := [(2, .d (.str (bstr v32)))]) (objs := [.box [.row 1 f_.Voltages.length 0 f_.Voltages.length, .row 2 f_.Currents.length 0 f_.Currents.length, .d (.int .i64 f_.Rounds), .d (.bool f_.Rests)], .row 3 (f_.Voltages.map eSPhases), .row 3 (f_.Currents.map eSPhases)]) rfl (by simp) rfl (by repeat' first | exact trivial | refine ⟨?_, ?_⟩) ⟨rfl, trivial, trivial⟩) ?_
      refine aw_ret ?_
      have hr := Option.some.inj h
      subst hr
      exact ret_objs (.inr rfl) [] (objs' := [.box [.row 1 f_.Voltages.length 0 f_.Voltages.length, .row 2 f_.Currents.length 0 f_.Currents.length, .d (.int .i64 f_.Rounds), .d (.bool f_.Rests)], .row 3 (f_.Voltages.map eSPhases), .row 3 (f_.Currents.map eSPhases)]) (new := []) rfl (by simp) (by simp) rfl (by repeat' first | exact trivial | refine ⟨?_, ?_⟩) rfl rfl (by repeat' first | exact trivial | refine ⟨?_, ?_⟩) (fun _ => ⟨by simp [V.flat, V.flatA, V.flatC, D.flat], (flat_cons (by simp [AObj.flat, V.flatC, D.flat]) (flat_cons (flat_row eSPhases_flat _) (flat_cons (flat_row eSPhases_flat _) flat_nil)))⟩) ⟨rfl, rfl, rfl⟩
  · refine aw_seq ?_
    refine aw_seq ?_
    refine aw_region ?_
    refine awl_val hτ rfl rfl rfl ?_
    refine awl_val hτ rfl rfl rfl ?_
    refine awl_val hτ rfl rfl rfl ?_
    refine awl_val hτ rfl rfl rfl ?_
    refine awl_nil ?_
    refine aw_weak (weak_ofP [0, 1, 2] (l := [(0, .ptr 0 0), (3, .d (.int .i64 (0 : Int))), (9, .d (.bool f_.Rests))]) (objs := [.box [.row 1 f_.Voltages.length 0 f_.Voltages.length, .row 2 f_.Currents.length 0 f_.Currents.length, .d (.int .i64 f_.Rounds), .d (.bool f_.Rests)], .row 3 (f_.Voltages.map eSPhases), .row 3 (f_.Currents.map eSPhases)]) rfl (by simp) rfl (by repeat' first | exact trivial | refine ⟨?_, ?_⟩) ⟨rfl, trivial, rfl, trivial, rfl, trivial, trivial⟩) ?_
    refine aw_cond rfl (fun hc52 => ?_) (fun hc52 => ?_)
    · have h := if_bt h hc52
      refine aw_region ?_
      refine awl_val hτ rfl rfl rfl ?_
      refine awl_nil ?_
      refine aw_weak (weak_ofP [0, 1, 2] (l := [(0, .ptr 0 0), (3, .d (.int .i64 (1 : Int)))]) (objs := [.box [.row 1 f_.Voltages.length 0 f_.Voltages.length, .row 2 f_.Currents.length 0 f_.Currents.length, .d (.int .i64 f_.Rounds), .d (.bool f_.Rests)], .row 3 (f_.Voltages.map eSPhases), .row 3 (f_.Currents.map eSPhases)]) rfl (by simp) rfl (by repeat' first | exact trivial | refine ⟨?_, ?_⟩) ⟨rfl, trivial, rfl, trivial, trivial⟩) ?_
      exact hk51 (1 : Int) h
    · have h := if_bf h hc52
      refine aw_skip ?_
      refine aw_weak (weak_ofP [0, 1, 2] (l := [(0, .ptr 0 0), (3, .d (.int .i64 (0 : Int)))]) (objs := [.box [.row 1 f_.Voltages.length 0 f_.Voltages.length, .row 2 f_.Currents.length 0 f_.Currents.length, .d (.int .i64 f_.Rounds), .d (.bool f_.Rests)], .row 3 (f_.Voltages.map eSPhases), .row 3 (f_.Currents.map eSPhases)]) rfl (by simp) rfl (by repeat' first | exact trivial | refine ⟨?_, ?_⟩) ⟨rfl, trivial, rfl, trivial, trivial⟩) ?_
      exact hk51 (0 : Int) h
theorem spec_l10Bytes_ok (n : Nat) (f_ : SFlow) {r : Str} (h : m_spec_l10Bytes n f_ = some r) : ACall prog false 110 [.ptr 0 0] [.box [.row 1 f_.Voltages.length 0 f_.Voltages.length, .row 2 f_.Currents.length 0 f_.Currents.length, .d (.int .i64 f_.Rounds), .d (.bool f_.Rests)], .row 3 (f_.Voltages.map eSPhases), .row 3 (f_.Currents.map eSPhases)] (fun v o new => v = .d (.str (bstr r)) ∧ o = [.box [.row 1 f_.Voltages.length 0 f_.Voltages.length, .row 2 f_.Currents.length 0 f_.Currents.length, .d (.int .i64 f_.Rounds), .d (.bool f_.Rests)], .row 3 (f_.Voltages.map eSPhases), .row 3 (f_.Currents.map eSPhases)] ∧ new = []) := spec_l10Bytes_ok_fr0 false n f_ h
theorem spec_l10Bytes_ok_fr (n : Nat) (f_ : SFlow) {r : Str} (h : m_spec_l10Bytes n f_ = some r) : ACall prog true 110 [.ptr 0 0] [.box [.row 1 f_.Voltages.length 0 f_.Voltages.length, .row 2 f_.Currents.length 0 f_.Currents.length, .d (.int .i64 f_.Rounds), .d (.bool f_.Rests)], .row 3 (f_.Voltages.map eSPhases), .row 3 (f_.Currents.map eSPhases)] (fun v o new => v = .d (.str (bstr r)) ∧ o = [.box [.row 1 f_.Voltages.length 0 f_.Voltages.length, .row 2 f_.Currents.length 0 f_.Currents.length, .d (.int .i64 f_.Rounds), .d (.bool f_.Rests)], .row 3 (f_.Voltages.map eSPhases), .row 3 (f_.Currents.map eSPhases)] ∧ new = []) := spec_l10Bytes_ok_fr0 true n f_ h

def m_spec_l10OfBytes_j1 (n : Nat) (s_ : Str) (x36 : Int × SL10Eyes) (x37 : Int × SL10Eyes) (v66 : List SPhases) (v67 : List SPhases) (v68 : Str) (v69 : Int) (v70 : Bool) (v71 : List SPhases) (v72 : List SPhases) : Option (SFlow × Bool) :=
  if v70 = true then
    if x36.1 ≤ (50 : Int) then
      (m_spec_l10Bytes n (SFlow.mk v71 v72 x36.1 (decide (x37.1 = (1 : Int))))).bind fun x75 =>
      some ((SFlow.mk v71 v72 x36.1 (decide (x37.1 = (1 : Int)))), (decide (x75 = s_)))
    else
      some ((SFlow.mk v71 v72 x36.1 (decide (x37.1 = (1 : Int)))), false)
  else
    some ((SFlow.mk v71 v72 x36.1 (decide (x37.1 = (1 : Int)))), false)
def m_spec_l10OfBytes_j3 (n : Nat) (k106 : List SPhases → List SPhases → Str → Int → Bool → List SPhases → List SPhases → Int → Option (SFlow × Bool)) (v83 : List SPhases) (v84 : List SPhases) (v85 : Str) (v86 : Int) (v87 : Bool) (v88 : List SPhases) (v89 : List SPhases) (v90 : Int) : Option (SFlow × Bool) :=
  (m_spec_l10Eyes_phases n (SL10Eyes.mk v85 v86 v87)).bind fun x109 =>
  grd (room (v88.length + 1) 24) <|
  (m_spec_l10Eyes_phases n x109.2).bind fun x111 =>
  grd (room (v89.length + 1) 24) <|
  k106 v83 v84 x111.2.text x111.2.at_ x111.2.fine (v88 ++ [x109.1]) (v89 ++ [x111.1]) (w64 (v90 + (1 : Int)))
def m_spec_l10OfBytes_j4 (n : Nat) (s_ : Str) (x36 : Int × SL10Eyes) (x37 : Int × SL10Eyes) (k106 : List SPhases → List SPhases → Str → Int → Bool → List SPhases → List SPhases → Int → Option (SFlow × Bool)) (v83 : List SPhases) (v84 : List SPhases) (v85 : Str) (v86 : Int) (v87 : Bool) (v88 : List SPhases) (v89 : List SPhases) (v90 : Int) (v116 : Bool) : Option (SFlow × Bool) :=
  if v116 = true then
    m_spec_l10OfBytes_j3 n k106 v83 v84 v85 v86 v87 v88 v89 v90
  else
    m_spec_l10OfBytes_j1 n s_ x36 x37 v83 v84 v85 v86 v87 v88 v89
def m_spec_l10OfBytes_l2 (n : Nat) (s_ : Str) (buses_ : Int) (x36 : Int × SL10Eyes) (x37 : Int × SL10Eyes) : Nat → List SPhases → List SPhases → Str → Int → Bool → List SPhases → List SPhases → Int → Option (SFlow × Bool)
  | 0, _, _, _, _, _, _, _, _ => none
  | m105 + 1, v83, v84, v85, v86, v87, v88, v89, v90 =>
    if v90 < buses_ then
      m_spec_l10OfBytes_j4 n s_ x36 x37 (m_spec_l10OfBytes_l2 n s_ buses_ x36 x37 m105) v83 v84 v85 v86 v87 v88 v89 v90 v87
    else
      m_spec_l10OfBytes_j4 n s_ x36 x37 (m_spec_l10OfBytes_l2 n s_ buses_ x36 x37 m105) v83 v84 v85 v86 v87 v88 v89 v90 false
def m_spec_l10OfBytes (n : Nat) (s_ : Str) (buses_ : Int) : Option (SFlow × Bool) :=
  (m_spec_l10Eyes_word n (SL10Eyes.mk s_ (0 : Int) true) (1 : Int)).bind fun x36 =>
  (m_spec_l10Eyes_word n x36.2 (1 : Int)).bind fun x37 =>
  m_spec_l10OfBytes_l2 n s_ buses_ x36 x37 n ([] : List SPhases) ([] : List SPhases) x37.2.text x37.2.at_ x37.2.fine ([] : List SPhases) ([] : List SPhases) (0 : Int)
theorem spec_l10OfBytes_ok_fr0 (fr : Bool) (n : Nat) (s_ : Str) (buses_ : Int) {r : SFlow × Bool} (h : m_spec_l10OfBytes n s_ buses_ = some r) : ACall prog fr 81 [.d (.str (bstr s_)), .d (.int .i64 buses_)] [] (fun v o new => v = .tup [.agg [.row 0 r.1.Voltages.length 0 r.1.Voltages.length, .row 1 r.1.Currents.length 0 r.1.Currents.length, .d (.int .i64 r.1.Rounds), .d (.bool r.1.Rests)], .d (.bool r.2)] ∧ o = [] ∧ new = [.row 3 (r.1.Voltages.map eSPhases), .row 3 (r.1.Currents.map eSPhases)]) := by
  refine acall_of_aw hτ func81 rfl (by simp) (by simp) ?_
  unfold m_spec_l10OfBytes at h
  refine aw_seq ?_
  refine aw_region ?_
  refine awl_valH hτ rfl rfl rfl ?_
  refine awl_val hτ rfl rfl rfl ?_
  refine awl_nil ?_
  refine aw_seq ?_
  refine aw_region ?_
  refine awl_val hτ rfl rfl rfl ?_
  refine awl_val hτ rfl rfl rfl ?_
  refine awl_valH hτ rfl rfl rfl ?_
  refine awl_val hτ rfl rfl rfl ?_
  refine awl_nil ?_
  refine aw_seq ?_
  refine aw_weak (weak_ofP [0, 1] (l := [(0, .d (.str (bstr s_))), (1, .d (.int .i64 buses_)), (4, .ptr 0 0), (6, .ptr 1 0)]) (objs := [.box [.d (.nils), .d (.nils), .d (.int .i64 (0 : Int)), .d (.bool false)], .box [.d (.str (bstr s_)), .d (.int .i64 (0 : Int)), .d (.bool true)]]) rfl (by simp) rfl (by repeat' first | exact trivial | refine ⟨?_, ?_⟩) ⟨rfl, trivial, rfl, trivial, rfl, trivial, rfl, trivial, trivial⟩) ?_
  refine aw_region ?_
  refine awl_val hτ rfl rfl rfl ?_
  refine bnd_elim h fun x36 hx36 h => ?_
  refine awl_callP hτ false [1] rfl rfl rfl (enterOk func108 rfl rfl) rfl rfl (by simp) ⟨trivial, trivial, trivial⟩ (by repeat' first | exact trivial | refine ⟨?_, ?_⟩) (spec_l10Eyes_word_ok n (SL10Eyes.mk s_ (0 : Int) true) (1 : Int) hx36) ?_
  rintro r0 o0 n0 ⟨rfl, rfl, rfl⟩ -
  refine awl_val hτ rfl rfl rfl ?_
  refine awl_valH hτ rfl rfl rfl ?_
  refine awl_valH hτ rfl rfl rfl ?_
  refine awl_nil ?_
  refine aw_seq ?_
  refine aw_region ?_
  refine awl_val hτ rfl rfl rfl ?_
  refine bnd_elim h fun x37 hx37 h => ?_
  refine awl_callP hτ false [1] rfl rfl rfl (enterOk func108 rfl rfl) rfl rfl (by simp) ⟨trivial, trivial, trivial⟩ (by repeat' first | exact trivial | refine ⟨?_, ?_⟩) (spec_l10Eyes_word_ok n x36.2 (1 : Int) hx37) ?_
  rintro r0 o0 n0 ⟨rfl, rfl, rfl⟩ -
  refine awl_val hτ (v := .d (.bool (decide (x37.1 = (1 : Int))))) rfl rfl (or_ieq _ _) ?_
  refine awl_val hτ rfl rfl rfl ?_
  refine awl_valH hτ rfl rfl rfl ?_
  refine awl_nil ?_
  refine aw_hk1 (ι := List SPhases × List SPhases × Str × Int × Bool × List SPhases × List SPhases) (fun (v66, v67, v68, v69, v70, v71, v72) => St.of [(0, .d (.str (bstr s_))), (4, .ptr 0 0), (6, .ptr 3 0), (7, .ptr 4 0)] [.box [.row 1 v66.length 0 v66.length, .row 2 v67.length 0 v67.length, .d (.int .i64 (0 : Int)), .d (.bool false)], .row 3 (v66.map eSPhases), .row 3 (v67.map eSPhases), .box [.d (.str (bstr v68)), .d (.int .i64 v69), .d (.bool v70)], .box [.row 5 v71.length 0 v71.length, .row 6 v72.length 0 v72.length, .d (.int .i64 x36.1), .d (.bool (decide (x37.1 = (1 : Int))))], .row 3 (v71.map eSPhases), .row 3 (v72.map eSPhases)] f81.ntmps 0) (fun (v66, v67, v68, v69, v70, v71, v72) => m_spec_l10OfBytes_j1 n s_ x36 x37 v66 v67 v68 v69 v70 v71 v72 = some r) ?_ (fun hk76 => ?_)
  · rintro ⟨v66, v67, v68, v69, v70, v71, v72⟩ h
    replace h : m_spec_l10OfBytes_j1 n s_ x36 x37 v66 v67 v68 v69 v70 v71 v72 = some r := h
    unfold m_spec_l10OfBytes_j1 at h
    refine aw_seq ?_
    refine any_start ?_
    refine any_val hτ [4] 0 rfl rfl rfl rfl rfl ?_
    refine any_val hτ [] 1 rfl rfl rfl rfl rfl ?_
    refine any_val hτ [] 2 rfl rfl rfl rfl rfl ?_
    refine any_val hτ [3] 3 rfl rfl rfl rfl rfl ?_
    refine any_val hτ [3] 4 rfl rfl rfl rfl rfl ?_
    refine any_val hτ [] 5 rfl rfl rfl rfl rfl ?_
    refine any_split 51 rfl (fun hb73 => ?_) (fun hb73 => ?_)
    · have h := if_bt h hb73
      refine any_val hτ [4] 6 rfl rfl rfl rfl rfl ?_
      refine any_val hτ [4] 7 rfl rfl rfl rfl rfl ?_
      refine any_val hτ [] 8 rfl rfl rfl rfl rfl ?_
      refine any_val hτ [] 9 rfl rfl rfl rfl rfl ?_
      refine any_val hτ [] 10 rfl rfl rfl rfl rfl ?_
      refine any_split 56 rfl (fun hb74 => ?_) (fun hb74 => ?_)
      · have h := if_t h hb74
        refine any_val hτ [] 12 rfl rfl rfl rfl rfl ?_
        refine bnd_elim h fun x75 hx75 h => ?_
        refine any_callP hτ false [4, 5, 6] [0, 1, 2, 3, 4, 5, 6] 11 rfl rfl rfl rfl (enterOk func110 rfl rfl) rfl rfl (by simp) ⟨trivial, trivial⟩ (by repeat' first | exact trivial | refine ⟨?_, ?_⟩) (spec_l10Bytes_ok n (SFlow.mk v71 v72 x36.1 (decide (x37.1 = (1 : Int)))) hx75) ⟨rfl, rfl, rfl, rfl, rfl, rfl, rfl, trivial⟩ ?_
        refine any_val hτ (v := .d (.bool (decide (x75 = s_)))) [] 13 rfl rfl rfl rfl (or_seq _ _) ?_
        refine any_val hτ [] 14 rfl rfl rfl rfl rfl ?_
        refine any_valHP hτ [1, 2, 3, 4, 5, 6] 15 rfl rfl rfl rfl ⟨rfl, rfl, rfl, rfl, rfl, rfl, trivial⟩ ?_
        refine any_val hτ [] 16 rfl rfl rfl rfl rfl ?_
        refine any_done mixed (by kernel_rfl) ?_
        refine aw_weak (weak_ofP [0, 5, 6] (l := [(4, .ptr 0 0), (5, .d (.bool (decide (x75 = s_))))]) (objs := [.box [.row 1 v71.length 0 v71.length, .row 2 v72.length 0 v72.length, .d (.int .i64 x36.1), .d (.bool (decide (x37.1 = (1 : Int))))], .row 3 (v71.map eSPhases), .row 3 (v72.map eSPhases)]) rfl (by simp) rfl (by repeat' first | exact trivial | refine ⟨?_, ?_⟩) ⟨rfl, trivial, rfl, trivial, trivial⟩) ?_
        refine aw_ret ?_
        have hr := Option.some.inj h
        subst hr
        exact ret_objs (.inr rfl) [1, 2] (objs' := []) (new := [.row 3 (v71.map eSPhases), .row 3 (v72.map eSPhases)]) rfl (by simp) (by simp) rfl (by repeat' first | exact trivial | refine ⟨?_, ?_⟩) rfl rfl (by repeat' first | exact trivial | refine ⟨?_, ?_⟩) (fun _ => ⟨by simp [V.flat, V.flatA, V.flatC, D.flat], (flat_cons (flat_row eSPhases_flat _) (flat_cons (flat_row eSPhases_flat _) flat_nil))⟩) ⟨rfl, rfl, rfl⟩
      · have h := if_f h hb74
        refine any_skip 12 rfl rfl rfl ?_
        refine any_skip 11 rfl rfl rfl ?_
        refine any_skip 13 rfl rfl rfl ?_
        refine any_val hτ [] 14 rfl rfl rfl rfl rfl ?_
        refine any_valHP hτ [1, 2, 3, 4, 5, 6] 15 rfl rfl rfl rfl ⟨rfl, rfl, rfl, rfl, rfl, rfl, trivial⟩ ?_
        refine any_val hτ [] 16 rfl rfl rfl rfl rfl ?_
        refine any_done mixed (by kernel_rfl) ?_
        refine aw_weak (weak_ofP [0, 5, 6] (l := [(4, .ptr 0 0), (5, .d (.bool false))]) (objs := [.box [.row 1 v71.length 0 v71.length, .row 2 v72.length 0 v72.length, .d (.int .i64 x36.1), .d (.bool (decide (x37.1 = (1 : Int))))], .row 3 (v71.map eSPhases), .row 3 (v72.map eSPhases)]) rfl (by simp) rfl (by repeat' first | exact trivial | refine ⟨?_, ?_⟩) ⟨rfl, trivial, rfl, trivial, trivial⟩) ?_
        refine aw_ret ?_
        have hr := Option.some.inj h
        subst hr
        exact ret_objs (.inr rfl) [1, 2] (objs' := []) (new := [.row 3 (v71.map eSPhases), .row 3 (v72.map eSPhases)]) rfl (by simp) (by simp) rfl (by repeat' first | exact trivial | refine ⟨?_, ?_⟩) rfl rfl (by repeat' first | exact trivial | refine ⟨?_, ?_⟩) (fun _ => ⟨by simp [V.flat, V.flatA, V.flatC, D.flat], (flat_cons (flat_row eSPhases_flat _) (flat_cons (flat_row eSPhases_flat _) flat_nil))⟩) ⟨rfl, rfl, rfl⟩
    · have h := if_bf h hb73
      refine any_skip 6 rfl rfl rfl ?_
      refine any_skip 7 rfl rfl rfl ?_
      refine any_skip 8 rfl rfl rfl ?_
      refine any_val hτ [] 9 rfl rfl rfl rfl rfl ?_
      refine any_val hτ [] 10 rfl rfl rfl rfl rfl ?_
      refine any_skip 12 rfl rfl rfl ?_
      refine any_skip 11 rfl rfl rfl ?_
      refine any_skip 13 rfl rfl rfl ?_
      refine any_val hτ [] 14 rfl rfl rfl rfl rfl ?_
      refine any_valHP hτ [1, 2, 3, 4, 5, 6] 15 rfl rfl rfl rfl ⟨rfl, rfl, rfl, rfl, rfl, rfl, trivial⟩ ?_
      refine any_val hτ [] 16 rfl rfl rfl rfl rfl ?_
      refine any_done mixed (by kernel_rfl) ?_
      refine aw_weak (weak_ofP [0, 5, 6] (l := [(4, .ptr 0 0), (5, .d (.bool false))]) (objs := [.box [.row 1 v71.length 0 v71.length, .row 2 v72.length 0 v72.length, .d (.int .i64 x36.1), .d (.bool (decide (x37.1 = (1 : Int))))], .row 3 (v71.map eSPhases), .row 3 (v72.map eSPhases)]) rfl (by simp) rfl (by repeat' first | exact trivial | refine ⟨?_, ?_⟩) ⟨rfl, trivial, rfl, trivial, trivial⟩) ?_
      refine aw_ret ?_
      have hr := Option.some.inj h
      subst hr
      exact ret_objs (.inr rfl) [1, 2] (objs' := []) (new := [.row 3 (v71.map eSPhases), .row 3 (v72.map eSPhases)]) rfl (by simp) (by simp) rfl (by repeat' first | exact trivial | refine ⟨?_, ?_⟩) rfl rfl (by repeat' first | exact trivial | refine ⟨?_, ?_⟩) (fun _ => ⟨by simp [V.flat, V.flatA, V.flatC, D.flat], (flat_cons (flat_row eSPhases_flat _) (flat_cons (flat_row eSPhases_flat _) flat_nil))⟩) ⟨rfl, rfl, rfl⟩
  · refine aw_seq ?_
    refine aw_seq ?_
    refine aw_weak (weak_ofP [0, 1, 2] (l := [(0, .d (.str (bstr s_))), (1, .d (.int .i64 buses_)), (4, .ptr 0 0), (6, .ptr 1 0), (7, .ptr 2 0)]) (objs := [.box [.d (.nils), .d (.nils), .d (.int .i64 (0 : Int)), .d (.bool false)], .box [.d (.str (bstr x37.2.text)), .d (.int .i64 x37.2.at_), .d (.bool x37.2.fine)], .box [.d (.nils), .d (.nils), .d (.int .i64 x36.1), .d (.bool (decide (x37.1 = (1 : Int))))]]) rfl (by simp) rfl (by repeat' first | exact trivial | refine ⟨?_, ?_⟩) ⟨rfl, trivial, rfl, trivial, rfl, trivial, rfl, trivial, rfl, trivial, trivial⟩) ?_
    refine aw_region ?_
    refine awl_val hτ rfl rfl rfl ?_
    refine awl_nil ?_
    refine aw_block ?_
    refine aw_loop (ι := Nat × List SPhases × List SPhases × Str × Int × Bool × List SPhases × List SPhases × Int) (fun (m105, v83, v84, v85, v86, v87, v88, v89, v90) => St.of [(0, .d (.str (bstr s_))), (1, .d (.int .i64 buses_)), (4, .ptr 0 0), (6, .ptr 3 0), (7, .ptr 4 0), (8, .d (.int .i64 v90))] [.box [.row 1 v83.length 0 v83.length, .row 2 v84.length 0 v84.length, .d (.int .i64 (0 : Int)), .d (.bool false)], .row 3 (v83.map eSPhases), .row 3 (v84.map eSPhases), .box [.d (.str (bstr v85)), .d (.int .i64 v86), .d (.bool v87)], .box [.row 5 v88.length 0 v88.length, .row 6 v89.length 0 v89.length, .d (.int .i64 x36.1), .d (.bool (decide (x37.1 = (1 : Int))))], .row 3 (v88.map eSPhases), .row 3 (v89.map eSPhases)] f81.ntmps 0) (fun (m105, v83, v84, v85, v86, v87, v88, v89, v90) => m_spec_l10OfBytes_l2 n s_ buses_ x36 x37 m105 v83 v84 v85 v86 v87 v88 v89 v90 = some r) (fun x => x.1) (n, ([] : List SPhases), ([] : List SPhases), x37.2.text, x37.2.at_, x37.2.fine, ([] : List SPhases), ([] : List SPhases), (0 : Int)) h (Weak.trans (Weak.trans (weak_ofP [0, 1, 2] (l := [(0, .d (.str (bstr s_))), (1, .d (.int .i64 buses_)), (4, .ptr 0 0), (6, .ptr 1 0), (7, .ptr 2 0), (8, .d (.int .i64 (0 : Int)))]) (objs := [.box [.d (.nils), .d (.nils), .d (.int .i64 (0 : Int)), .d (.bool false)], .box [.d (.str (bstr x37.2.text)), .d (.int .i64 x37.2.at_), .d (.bool x37.2.fine)], .box [.d (.nils), .d (.nils), .d (.int .i64 x36.1), .d (.bool (decide (x37.1 = (1 : Int))))]]) rfl (by simp) rfl (by repeat' first | exact trivial | refine ⟨?_, ?_⟩) ⟨rfl, trivial, rfl, trivial, rfl, trivial, rfl, trivial, rfl, trivial, rfl, trivial, trivial⟩) (weak_relax [3, 3, 3, 3] (l' := [(0, .d (.str (bstr s_))), (1, .d (.int .i64 buses_)), (4, .ptr 0 0), (6, .ptr 1 0), (7, .ptr 2 0), (8, .d (.int .i64 (0 : Int)))]) (objs' := [.box [.row 3 (([] : List SPhases).length) 0 (([] : List SPhases).length), .row 4 (([] : List SPhases).length) 0 (([] : List SPhases).length), .d (.int .i64 (0 : Int)), .d (.bool false)], .box [.d (.str (bstr x37.2.text)), .d (.int .i64 x37.2.at_), .d (.bool x37.2.fine)], .box [.row 5 (([] : List SPhases).length) 0 (([] : List SPhases).length), .row 6 (([] : List SPhases).length) 0 (([] : List SPhases).length), .d (.int .i64 x36.1), .d (.bool (decide (x37.1 = (1 : Int))))]]) (.cons (.c (.refl _)) (.cons (.c (.refl _)) (.cons (.c (.refl _)) (.cons (.c (.refl _)) (.cons (.c (.refl _)) (.cons (.c (.refl _)) .nil)))))) (.cons (.box (.cons (.ghost ⟨Nat.le_of_ble_eq_true rfl, Nat.le_of_ble_eq_true rfl⟩) (.cons (.ghost ⟨Nat.le_of_ble_eq_true rfl, Nat.le_of_ble_eq_true rfl⟩) (.cons (.refl _) (.cons (.refl _) .nil))))) (.cons (.refl _) (.cons (.box (.cons (.ghost ⟨Nat.le_of_ble_eq_true rfl, Nat.le_of_ble_eq_true rfl⟩) (.cons (.ghost ⟨Nat.le_of_ble_eq_true rfl, Nat.le_of_ble_eq_true rfl⟩) (.cons (.refl _) (.cons (.refl _) .nil))))) .nil))))) (weak_ofP [0, 3, 4, 1, 2, 5, 6] (l := [(0, .d (.str (bstr s_))), (1, .d (.int .i64 buses_)), (4, .ptr 0 0), (6, .ptr 3 0), (7, .ptr 4 0), (8, .d (.int .i64 (0 : Int)))]) (objs := [.box [.row 1 (([] : List SPhases).length) 0 (([] : List SPhases).length), .row 2 (([] : List SPhases).length) 0 (([] : List SPhases).length), .d (.int .i64 (0 : Int)), .d (.bool false)], .row 3 (([] : List SPhases).map eSPhases), .row 3 (([] : List SPhases).map eSPhases), .box [.d (.str (bstr x37.2.text)), .d (.int .i64 x37.2.at_), .d (.bool x37.2.fine)], .box [.row 5 (([] : List SPhases).length) 0 (([] : List SPhases).length), .row 6 (([] : List SPhases).length) 0 (([] : List SPhases).length), .d (.int .i64 x36.1), .d (.bool (decide (x37.1 = (1 : Int))))], .row 3 (([] : List SPhases).map eSPhases), .row 3 (([] : List SPhases).map eSPhases)]) rfl (by simp) rfl (by repeat' first | exact trivial | refine ⟨?_, ?_⟩) ⟨rfl, trivial, rfl, trivial, rfl, trivial, rfl, trivial, rfl, trivial, rfl, trivial, trivial⟩)) ?_
    rintro ⟨m105, v83, v84, v85, v86, v87, v88, v89, v90⟩ h
    replace h : m_spec_l10OfBytes_l2 n s_ buses_ x36 x37 m105 v83 v84 v85 v86 v87 v88 v89 v90 = some r := h
    rcases m105 with _ | m105
    · rw [m_spec_l10OfBytes_l2] at h; cases h
    rw [m_spec_l10OfBytes_l2] at h
    refine aw_hk1 (ι := Unit) (fun _ => St.of [(0, .d (.str (bstr s_))), (1, .d (.int .i64 buses_)), (4, .ptr 0 0), (6, .ptr 3 0), (7, .ptr 4 0), (8, .d (.int .i64 v90))] [.box [.row 1 v83.length 0 v83.length, .row 2 v84.length 0 v84.length, .d (.int .i64 (0 : Int)), .d (.bool false)], .row 3 (v83.map eSPhases), .row 3 (v84.map eSPhases), .box [.d (.str (bstr v85)), .d (.int .i64 v86), .d (.bool v87)], .box [.row 5 v88.length 0 v88.length, .row 6 v89.length 0 v89.length, .d (.int .i64 x36.1), .d (.bool (decide (x37.1 = (1 : Int))))], .row 3 (v88.map eSPhases), .row 3 (v89.map eSPhases)] f81.ntmps 0) (fun _ => m_spec_l10OfBytes_j3 n (m_spec_l10OfBytes_l2 n s_ buses_ x36 x37 m105) v83 v84 v85 v86 v87 v88 v89 v90 = some r) ?_ (fun hk113 => ?_)
    · rintro ⟨⟩ h
      replace h : m_spec_l10OfBytes_j3 n (m_spec_l10OfBytes_l2 n s_ buses_ x36 x37 m105) v83 v84 v85 v86 v87 v88 v89 v90 = some r := h
      unfold m_spec_l10OfBytes_j3 at h
      refine aw_seq ?_
      refine aw_block ?_
      refine aw_seq ?_
      refine aw_region ?_
      refine awl_val hτ rfl rfl rfl ?_
      refine bnd_elim h fun x109 hx109 h => ?_
      refine awl_callP hτ false [3] rfl rfl rfl (enterOk func109 rfl rfl) rfl rfl (by simp) ⟨trivial, trivial⟩ (by repeat' first | exact trivial | refine ⟨?_, ?_⟩) (spec_l10Eyes_phases_ok n (SL10Eyes.mk v85 v86 v87) hx109) ?_
      rintro r0 o0 n0 ⟨rfl, rfl, rfl⟩ -
      refine awl_valH hτ rfl rfl rfl ?_
      refine awl_valH hτ rfl rfl rfl ?_
      refine awl_nil ?_
      refine aw_seq ?_
      refine aw_region ?_
      refine awl_val hτ rfl rfl rfl ?_
      refine awl_val hτ rfl rfl rfl ?_
      refine awl_val hτ rfl rfl rfl ?_
      refine awl_valH hτ rfl rfl rfl ?_
      refine grd_elim h fun hg110 h => ?_
      refine awl_needH hτ rfl rfl (Eq.trans rfl (or_append (f := eSPhases) v88 [x109.1] rfl)) ⟨⟨rfl, Nat.le_of_ble_eq_true rfl⟩, len_map _, rfl, rfl, hg110, by decide, (all1 rfl)⟩ ?_
      refine awl_val hτ rfl rfl rfl ?_
      refine awl_valH hτ rfl rfl rfl ?_
      refine awl_nil ?_
      refine aw_weak (weak_ofP [0, 1, 2, 3, 4, 5, 6] (l := [(0, .d (.str (bstr s_))), (1, .d (.int .i64 buses_)), (4, .ptr 0 0), (6, .ptr 3 0), (7, .ptr 4 0), (8, .d (.int .i64 v90))]) (objs := [.box [.row 1 v83.length 0 v83.length, .row 2 v84.length 0 v84.length, .d (.int .i64 (0 : Int)), .d (.bool false)], .row 3 (v83.map eSPhases), .row 3 (v84.map eSPhases), .box [.d (.str (bstr x109.2.text)), .d (.int .i64 x109.2.at_), .d (.bool x109.2.fine)], .box [.row 5 ((v88 ++ [x109.1]).length) 0 ((v88 ++ [x109.1]).length), .row 6 v89.length 0 v89.length, .d (.int .i64 x36.1), .d (.bool (decide (x37.1 = (1 : Int))))], .row 3 ((v88 ++ [x109.1]).map eSPhases), .row 3 (v89.map eSPhases)]) rfl (by simp) rfl (by repeat' first | exact trivial | refine ⟨?_, ?_⟩) ⟨rfl, trivial, rfl, trivial, rfl, trivial, rfl, trivial, rfl, trivial, rfl, trivial, trivial⟩) ?_
      refine any_start ?_
      refine any_val hτ [4] 0 rfl rfl rfl rfl rfl ?_
      refine any_val hτ [4] 1 rfl rfl rfl rfl rfl ?_
      refine any_val hτ [] 2 rfl rfl rfl rfl rfl ?_
      refine bnd_elim h fun x111 hx111 h => ?_
      refine any_callP hτ false [3] [0, 1, 2, 4, 5, 6] 3 rfl rfl rfl rfl (enterOk func109 rfl rfl) rfl rfl (by simp) ⟨trivial, trivial⟩ (by repeat' first | exact trivial | refine ⟨?_, ?_⟩) (spec_l10Eyes_phases_ok n x109.2 hx111) ⟨rfl, rfl, rfl, rfl, rfl, rfl, trivial⟩ ?_
      refine any_valHP hτ [0, 1, 2, 3, 4, 5, 6] 4 rfl rfl rfl rfl ⟨rfl, rfl, rfl, rfl, rfl, rfl, rfl, trivial⟩ ?_
      refine grd_elim h fun hg112 h => ?_
      refine any_needHP hτ [0, 1, 2, 3, 4, 5, 7] 5 rfl rfl rfl (Eq.trans rfl (or_append (f := eSPhases) v89 [x111.1] rfl)) ⟨⟨rfl, Nat.le_of_ble_eq_true rfl⟩, len_map _, rfl, rfl, hg112, by decide, (all1 rfl)⟩ ⟨rfl, rfl, rfl, rfl, rfl, rfl, rfl, trivial⟩ ?_
      refine any_val hτ [4] 6 rfl rfl rfl rfl rfl ?_
      refine any_valHP hτ [0, 1, 2, 3, 5, 6, 7] 7 rfl rfl rfl rfl ⟨rfl, rfl, rfl, rfl, rfl, rfl, rfl, trivial⟩ ?_
      refine any_done mixed (by kernel_rfl) ?_
      refine aw_weak (weak_ofP [0, 1, 2, 3, 4, 5, 6] (l := [(0, .d (.str (bstr s_))), (1, .d (.int .i64 buses_)), (4, .ptr 0 0), (6, .ptr 3 0), (7, .ptr 4 0), (8, .d (.int .i64 v90))]) (objs := [.box [.row 1 v83.length 0 v83.length, .row 2 v84.length 0 v84.length, .d (.int .i64 (0 : Int)), .d (.bool false)], .row 3 (v83.map eSPhases), .row 3 (v84.map eSPhases), .box [.d (.str (bstr x111.2.text)), .d (.int .i64 x111.2.at_), .d (.bool x111.2.fine)], .box [.row 5 ((v88 ++ [x109.1]).length) 0 ((v88 ++ [x109.1]).length), .row 6 ((v89 ++ [x111.1]).length) 0 ((v89 ++ [x111.1]).length), .d (.int .i64 x36.1), .d (.bool (decide (x37.1 = (1 : Int))))], .row 3 ((v88 ++ [x109.1]).map eSPhases), .row 3 ((v89 ++ [x111.1]).map eSPhases)]) rfl (by simp) rfl (by repeat' first | exact trivial | refine ⟨?_, ?_⟩) ⟨rfl, trivial, rfl, trivial, rfl, trivial, rfl, trivial, rfl, trivial, rfl, trivial, trivial⟩) ?_
      refine aw_region ?_
      refine awl_val hτ rfl rfl rfl ?_
      refine awl_val hτ rfl rfl rfl ?_
      refine awl_val hτ rfl rfl rfl ?_
      refine awl_nil ?_
      exact ⟨(m105, v83, v84, x111.2.text, x111.2.at_, x111.2.fine, (v88 ++ [x109.1]), (v89 ++ [x111.1]), (w64 (v90 + (1 : Int)))), h, Nat.lt_succ_self m105, (weak_ofP [0, 1, 2, 3, 4, 5, 6] (l := [(0, .d (.str (bstr s_))), (1, .d (.int .i64 buses_)), (4, .ptr 0 0), (6, .ptr 3 0), (7, .ptr 4 0), (8, .d (.int .i64 (w64 (v90 + (1 : Int)))))]) (objs := [.box [.row 1 v83.length 0 v83.length, .row 2 v84.length 0 v84.length, .d (.int .i64 (0 : Int)), .d (.bool false)], .row 3 (v83.map eSPhases), .row 3 (v84.map eSPhases), .box [.d (.str (bstr x111.2.text)), .d (.int .i64 x111.2.at_), .d (.bool x111.2.fine)], .box [.row 5 ((v88 ++ [x109.1]).length) 0 ((v88 ++ [x109.1]).length), .row 6 ((v89 ++ [x111.1]).length) 0 ((v89 ++ [x111.1]).length), .d (.int .i64 x36.1), .d (.bool (decide (x37.1 = (1 : Int))))], .row 3 ((v88 ++ [x109.1]).map eSPhases), .row 3 ((v89 ++ [x111.1]).map eSPhases)]) rfl (by simp) rfl (by repeat' first | exact trivial | refine ⟨?_, ?_⟩) ⟨rfl, trivial, rfl, trivial, rfl, trivial, rfl, trivial, rfl, trivial, rfl, trivial, trivial⟩)⟩
    · refine aw_seq ?_
      refine aw_hk1 (ι := Bool) (fun v116 => St.of [(0, .d (.str (bstr s_))), (1, .d (.int .i64 buses_)), (4, .ptr 0 0), (6, .ptr 3 0), (7, .ptr 4 0), (8, .d (.int .i64 v90)), (28, .d (.bool v116))] [.box [.row 1 v83.length 0 v83.length, .row 2 v84.length 0 v84.length, .d (.int .i64 (0 : Int)), .d (.bool false)], .row 3 (v83.map eSPhases), .row 3 (v84.map eSPhases), .box [.d (.str (bstr v85)), .d (.int .i64 v86), .d (.bool v87)], .box [.row 5 v88.length 0 v88.length, .row 6 v89.length 0 v89.length, .d (.int .i64 x36.1), .d (.bool (decide (x37.1 = (1 : Int))))], .row 3 (v88.map eSPhases), .row 3 (v89.map eSPhases)] f81.ntmps 0) (fun v116 => m_spec_l10OfBytes_j4 n s_ x36 x37 (m_spec_l10OfBytes_l2 n s_ buses_ x36 x37 m105) v83 v84 v85 v86 v87 v88 v89 v90 v116 = some r) ?_ (fun hk118 => ?_)
      · rintro v116 h
        replace h : m_spec_l10OfBytes_j4 n s_ x36 x37 (m_spec_l10OfBytes_l2 n s_ buses_ x36 x37 m105) v83 v84 v85 v86 v87 v88 v89 v90 v116 = some r := h
        unfold m_spec_l10OfBytes_j4 at h
        refine aw_cond rfl (fun hc117 => ?_) (fun hc117 => ?_)
        · have h := if_bt h hc117
          refine aw_skip ?_
          refine aw_weak (weak_ofP [0, 1, 2, 3, 4, 5, 6] (l := [(0, .d (.str (bstr s_))), (1, .d (.int .i64 buses_)), (4, .ptr 0 0), (6, .ptr 3 0), (7, .ptr 4 0), (8, .d (.int .i64 v90))]) (objs := [.box [.row 1 v83.length 0 v83.length, .row 2 v84.length 0 v84.length, .d (.int .i64 (0 : Int)), .d (.bool false)], .row 3 (v83.map eSPhases), .row 3 (v84.map eSPhases), .box [.d (.str (bstr v85)), .d (.int .i64 v86), .d (.bool v87)], .box [.row 5 v88.length 0 v88.length, .row 6 v89.length 0 v89.length, .d (.int .i64 x36.1), .d (.bool (decide (x37.1 = (1 : Int))))], .row 3 (v88.map eSPhases), .row 3 (v89.map eSPhases)]) rfl (by simp) rfl (by repeat' first | exact trivial | refine ⟨?_, ?_⟩) ⟨rfl, trivial, rfl, trivial, rfl, trivial, rfl, trivial, rfl, trivial, rfl, trivial, trivial⟩) ?_
          exact hk113 () h
        · have h := if_bf h hc117
          refine aw_exit ?_
          refine aw_weak (weak_ofP [0, 1, 2, 3, 4, 5, 6] (l := [(0, .d (.str (bstr s_))), (4, .ptr 0 0), (6, .ptr 3 0), (7, .ptr 4 0)]) (objs := [.box [.row 1 v83.length 0 v83.length, .row 2 v84.length 0 v84.length, .d (.int .i64 (0 : Int)), .d (.bool false)], .row 3 (v83.map eSPhases), .row 3 (v84.map eSPhases), .box [.d (.str (bstr v85)), .d (.int .i64 v86), .d (.bool v87)], .box [.row 5 v88.length 0 v88.length, .row 6 v89.length 0 v89.length, .d (.int .i64 x36.1), .d (.bool (decide (x37.1 = (1 : Int))))], .row 3 (v88.map eSPhases), .row 3 (v89.map eSPhases)]) rfl (by simp) rfl (by repeat' first | exact trivial | refine ⟨?_, ?_⟩) ⟨rfl, trivial, rfl, trivial, rfl, trivial, rfl, trivial, trivial⟩) ?_
          exact hk76 (v83, v84, v85, v86, v87, v88, v89) h
      · refine aw_seq ?_
        refine aw_region ?_
        refine awl_val hτ rfl rfl rfl ?_
        refine awl_val hτ rfl rfl rfl ?_
        refine awl_val hτ rfl rfl rfl ?_
        refine awl_val hτ rfl rfl rfl ?_
        refine awl_split 23 rfl (fun hb119 => ?_) (fun hb119 => ?_)
        · have h := if_t h hb119
          refine awl_val hτ rfl rfl rfl ?_
          refine awl_val hτ rfl rfl rfl ?_
          refine awl_val hτ rfl rfl rfl ?_
          refine awl_val hτ rfl rfl rfl ?_
          refine awl_val hτ rfl rfl rfl ?_
          refine awl_nil ?_
          refine aw_weak (weak_ofP [0, 1, 2, 3, 4, 5, 6] (l := [(0, .d (.str (bstr s_))), (1, .d (.int .i64 buses_)), (4, .ptr 0 0), (6, .ptr 3 0), (7, .ptr 4 0), (8, .d (.int .i64 v90)), (28, .d (.bool v87))]) (objs := [.box [.row 1 v83.length 0 v83.length, .row 2 v84.length 0 v84.length, .d (.int .i64 (0 : Int)), .d (.bool false)], .row 3 (v83.map eSPhases), .row 3 (v84.map eSPhases), .box [.d (.str (bstr v85)), .d (.int .i64 v86), .d (.bool v87)], .box [.row 5 v88.length 0 v88.length, .row 6 v89.length 0 v89.length, .d (.int .i64 x36.1), .d (.bool (decide (x37.1 = (1 : Int))))], .row 3 (v88.map eSPhases), .row 3 (v89.map eSPhases)]) rfl (by simp) rfl (by repeat' first | exact trivial | refine ⟨?_, ?_⟩) ⟨rfl, trivial, rfl, trivial, rfl, trivial, rfl, trivial, rfl, trivial, rfl, trivial, rfl, trivial, trivial⟩) ?_
          exact hk118 v87 h
        · have h := if_f h hb119
          refine awl_skip rfl rfl ?_
          refine awl_skip rfl rfl ?_
          refine awl_skip rfl rfl ?_
          refine awl_skip rfl rfl ?_
          refine awl_val hτ rfl rfl rfl ?_
          refine awl_nil ?_
          refine aw_weak (weak_ofP [0, 1, 2, 3, 4, 5, 6] (l := [(0, .d (.str (bstr s_))), (1, .d (.int .i64 buses_)), (4, .ptr 0 0), (6, .ptr 3 0), (7, .ptr 4 0), (8, .d (.int .i64 v90)), (28, .d (.bool false))]) (objs := [.box [.row 1 v83.length 0 v83.length, .row 2 v84.length 0 v84.length, .d (.int .i64 (0 : Int)), .d (.bool false)], .row 3 (v83.map eSPhases), .row 3 (v84.map eSPhases), .box [.d (.str (bstr v85)), .d (.int .i64 v86), .d (.bool v87)], .box [.row 5 v88.length 0 v88.length, .row 6 v89.length 0 v89.length, .d (.int .i64 x36.1), .d (.bool (decide (x37.1 = (1 : Int))))], .row 3 (v88.map eSPhases), .row 3 (v89.map eSPhases)]) rfl (by simp) rfl (by repeat' first | exact trivial | refine ⟨?_, ?_⟩) ⟨rfl, trivial, rfl, trivial, rfl, trivial, rfl, trivial, rfl, trivial, rfl, trivial, rfl, trivial, trivial⟩) ?_
          exact hk118 false h
theorem spec_l10OfBytes_ok (n : Nat) (s_ : Str) (buses_ : Int) {r : SFlow × Bool} (h : m_spec_l10OfBytes n s_ buses_ = some r) : ACall prog false 81 [.d (.str (bstr s_)), .d (.int .i64 buses_)] [] (fun v o new => v = .tup [.agg [.row 0 r.1.Voltages.length 0 r.1.Voltages.length, .row 1 r.1.Currents.length 0 r.1.Currents.length, .d (.int .i64 r.1.Rounds), .d (.bool r.1.Rests)], .d (.bool r.2)] ∧ o = [] ∧ new = [.row 3 (r.1.Voltages.map eSPhases), .row 3 (r.1.Currents.map eSPhases)]) := spec_l10OfBytes_ok_fr0 false n s_ buses_ h
theorem spec_l10OfBytes_ok_fr (n : Nat) (s_ : Str) (buses_ : Int) {r : SFlow × Bool} (h : m_spec_l10OfBytes n s_ buses_ = some r) : ACall prog true 81 [.d (.str (bstr s_)), .d (.int .i64 buses_)] [] (fun v o new => v = .tup [.agg [.row 0 r.1.Voltages.length 0 r.1.Voltages.length, .row 1 r.1.Currents.length 0 r.1.Currents.length, .d (.int .i64 r.1.Rounds), .d (.bool r.1.Rests)], .d (.bool r.2)] ∧ o = [] ∧ new = [.row 3 (r.1.Voltages.map eSPhases), .row 3 (r.1.Currents.map eSPhases)]) := spec_l10OfBytes_ok_fr0 true n s_ buses_ h

def m_spec_FlowOfBytes (n : Nat) (s_ : Str) (buses_ : Int) : Option (SFlow × Bool) :=
  (m_spec_l00In n buses_ (1 : Int) (16 : Int)).bind fun x4 =>
  if x4 = true then
    (m_spec_l10OfBytes n s_ buses_).bind fun x6 =>
    if x6.2 = true then
      some ((SFlow.mk x6.1.Voltages x6.1.Currents x6.1.Rounds x6.1.Rests), true)
    else
      some ((SFlow.mk ([] : List SPhases) ([] : List SPhases) (0 : Int) false), false)
  else
    some ((SFlow.mk ([] : List SPhases) ([] : List SPhases) (0 : Int) false), false)
theorem spec_FlowOfBytes_ok_fr0 (fr : Bool) (n : Nat) (s_ : Str) (buses_ : Int) {r : SFlow × Bool} (h : m_spec_FlowOfBytes n s_ buses_ = some r) : ACall prog fr 39 [.d (.str (bstr s_)), .d (.int .i64 buses_)] [] (fun v o new => v = .tup [.agg [.row 0 r.1.Voltages.length 0 r.1.Voltages.length, .row 1 r.1.Currents.length 0 r.1.Currents.length, .d (.int .i64 r.1.Rounds), .d (.bool r.1.Rests)], .d (.bool r.2)] ∧ o = [] ∧ new = [.row 3 (r.1.Voltages.map eSPhases), .row 3 (r.1.Currents.map eSPhases)]) := by
  refine acall_of_aw hτ func39 rfl (by simp) (by simp) ?_
  unfold m_spec_FlowOfBytes at h
  refine aw_seq ?_
  refine aw_region ?_
  refine awl_valH hτ rfl rfl rfl ?_
  refine awl_val hτ rfl rfl rfl ?_
  refine awl_nil ?_
  refine aw_seq ?_
  refine aw_seq ?_
  refine aw_region ?_
  refine awl_val hτ rfl rfl rfl ?_
  refine bnd_elim h fun x4 hx4 h => ?_
  refine awl_callP hτ false [] rfl rfl rfl (enterOk func70 rfl rfl) rfl rfl (by simp) ⟨trivial, trivial, trivial, trivial⟩ (by repeat' first | exact trivial | refine ⟨?_, ?_⟩) (spec_l00In_ok n buses_ (1 : Int) (16 : Int) hx4) ?_
  rintro r0 o0 n0 ⟨rfl, rfl, rfl⟩ -
  refine awl_val hτ rfl rfl rfl ?_
  refine awl_nil ?_
  refine aw_cond rfl (fun hc5 => ?_) (fun hc5 => ?_)
  · have hc5 := not_t hc5
    have h := if_bf h hc5
    refine aw_seq ?_
    refine aw_region ?_
    refine awl_val hτ rfl rfl rfl ?_
    refine awl_valH hτ rfl rfl rfl ?_
    refine awl_val hτ rfl rfl rfl ?_
    refine awl_nil ?_
    refine aw_weak (weak_ofP [0] (l := [(4, .ptr 0 0), (5, .d (.bool false))]) (objs := [.box [.d (.nils), .d (.nils), .d (.int .i64 (0 : Int)), .d (.bool false)]]) rfl (by simp) rfl (by repeat' first | exact trivial | refine ⟨?_, ?_⟩) ⟨rfl, trivial, rfl, trivial, trivial⟩) ?_
    refine aw_weak (weak_relax [3, 3] (l' := [(4, .ptr 0 0), (5, .d (.bool false))]) (objs' := [.box [.row 1 (([] : List SPhases).length) 0 (([] : List SPhases).length), .row 2 (([] : List SPhases).length) 0 (([] : List SPhases).length), .d (.int .i64 (0 : Int)), .d (.bool false)]]) (.cons (.c (.refl _)) (.cons (.c (.refl _)) .nil)) (.cons (.box (.cons (.ghost ⟨Nat.le_of_ble_eq_true rfl, Nat.le_of_ble_eq_true rfl⟩) (.cons (.ghost ⟨Nat.le_of_ble_eq_true rfl, Nat.le_of_ble_eq_true rfl⟩) (.cons (.refl _) (.cons (.refl _) .nil))))) .nil)) ?_
    refine aw_ret ?_
    have hr := Option.some.inj h
    subst hr
    exact ret_objs (.inr rfl) [1, 2] (objs' := []) (new := [.row 3 (([] : List SPhases).map eSPhases), .row 3 (([] : List SPhases).map eSPhases)]) rfl (by simp) (by simp) rfl (by repeat' first | exact trivial | refine ⟨?_, ?_⟩) rfl rfl (by repeat' first | exact trivial | refine ⟨?_, ?_⟩) (fun _ => ⟨by simp [V.flat, V.flatA, V.flatC, D.flat], (flat_cons (flat_row eSPhases_flat _) (flat_cons (flat_row eSPhases_flat _) flat_nil))⟩) ⟨rfl, rfl, rfl⟩
  · have hc5 := not_f hc5
    have h := if_bt h hc5
    refine aw_skip ?_
    refine aw_seq ?_
    refine aw_region ?_
    refine awl_val hτ rfl rfl rfl ?_
    refine awl_val hτ rfl rfl rfl ?_
    refine bnd_elim h fun x6 hx6 h => ?_
    refine awl_callP hτ false [] rfl rfl rfl (enterOk func81 rfl rfl) rfl rfl (by simp) ⟨trivial, trivial, trivial⟩ (by repeat' first | exact trivial | refine ⟨?_, ?_⟩) (spec_l10OfBytes_ok n s_ buses_ hx6) ?_
    rintro r0 o0 n0 ⟨rfl, rfl, rfl⟩ -
    refine awl_val hτ rfl rfl rfl ?_
    refine awl_val hτ rfl rfl rfl ?_
    refine awl_val hτ rfl rfl rfl ?_
    refine awl_valH hτ rfl rfl rfl ?_
    refine awl_weak (weak_ofP [0, 3, 1, 2] (l := [(4, .ptr 0 0), (6, .ptr 1 0), (16, .agg [.row 2 x6.1.Voltages.length 0 x6.1.Voltages.length, .row 3 x6.1.Currents.length 0 x6.1.Currents.length, .d (.int .i64 x6.1.Rounds), .d (.bool x6.1.Rests)]), (17, .d (.bool x6.2))]) (objs := [.box [.d (.nils), .d (.nils), .d (.int .i64 (0 : Int)), .d (.bool false)], .box [.d (.nils), .d (.nils), .d (.int .i64 (0 : Int)), .d (.bool false)], .row 3 (x6.1.Voltages.map eSPhases), .row 3 (x6.1.Currents.map eSPhases)]) rfl (by simp) rfl (by repeat' first | exact trivial | refine ⟨?_, ?_⟩) ⟨rfl, trivial, rfl, trivial, rfl, (by repeat' first | exact trivial | refine ⟨?_, ?_⟩), rfl, trivial, trivial⟩) ?_
    refine awl_valH hτ rfl rfl rfl ?_
    refine awl_val hτ rfl rfl rfl ?_
    refine awl_nil ?_
    refine aw_seq ?_
    refine aw_seq ?_
    refine aw_region ?_
    refine awl_val hτ rfl rfl rfl ?_
    refine awl_val hτ rfl rfl rfl ?_
    refine awl_nil ?_
    refine aw_cond rfl (fun hc7 => ?_) (fun hc7 => ?_)
    · have hc7 := not_t hc7
      have h := if_bf h hc7
      refine aw_seq ?_
      refine aw_region ?_
      refine awl_val hτ rfl rfl rfl ?_
      refine awl_valH hτ rfl rfl rfl ?_
      refine awl_val hτ rfl rfl rfl ?_
      refine awl_nil ?_
      refine aw_weak (weak_ofP [0] (l := [(4, .ptr 0 0), (5, .d (.bool false))]) (objs := [.box [.d (.nils), .d (.nils), .d (.int .i64 (0 : Int)), .d (.bool false)]]) rfl (by simp) rfl (by repeat' first | exact trivial | refine ⟨?_, ?_⟩) ⟨rfl, trivial, rfl, trivial, trivial⟩) ?_
      refine aw_weak (weak_relax [3, 3] (l' := [(4, .ptr 0 0), (5, .d (.bool false))]) (objs' := [.box [.row 1 (([] : List SPhases).length) 0 (([] : List SPhases).length), .row 2 (([] : List SPhases).length) 0 (([] : List SPhases).length), .d (.int .i64 (0 : Int)), .d (.bool false)]]) (.cons (.c (.refl _)) (.cons (.c (.refl _)) .nil)) (.cons (.box (.cons (.ghost ⟨Nat.le_of_ble_eq_true rfl, Nat.le_of_ble_eq_true rfl⟩) (.cons (.ghost ⟨Nat.le_of_ble_eq_true rfl, Nat.le_of_ble_eq_true rfl⟩) (.cons (.refl _) (.cons (.refl _) .nil))))) .nil)) ?_
      refine aw_ret ?_
      have hr := Option.some.inj h
      subst hr
      exact ret_objs (.inr rfl) [1, 2] (objs' := []) (new := [.row 3 (([] : List SPhases).map eSPhases), .row 3 (([] : List SPhases).map eSPhases)]) rfl (by simp) (by simp) rfl (by repeat' first | exact trivial | refine ⟨?_, ?_⟩) rfl rfl (by repeat' first | exact trivial | refine ⟨?_, ?_⟩) (fun _ => ⟨by simp [V.flat, V.flatA, V.flatC, D.flat], (flat_cons (flat_row eSPhases_flat _) (flat_cons (flat_row eSPhases_flat _) flat_nil))⟩) ⟨rfl, rfl, rfl⟩
    · have hc7 := not_f hc7
      have h := if_bt h hc7
      refine aw_skip ?_
      refine aw_seq ?_
      refine aw_region ?_
      refine awl_val hτ rfl rfl rfl ?_
      refine awl_valH hτ rfl rfl rfl ?_
      refine awl_val hτ rfl rfl rfl ?_
      refine awl_nil ?_
      refine aw_weak (weak_ofP [0, 2, 3] (l := [(4, .ptr 0 0), (5, .d (.bool true))]) (objs := [.box [.row 1 x6.1.Voltages.length 0 x6.1.Voltages.length, .row 2 x6.1.Currents.length 0 x6.1.Currents.length, .d (.int .i64 x6.1.Rounds), .d (.bool x6.1.Rests)], .row 3 (x6.1.Voltages.map eSPhases), .row 3 (x6.1.Currents.map eSPhases)]) rfl (by simp) rfl (by repeat' first | exact trivial | refine ⟨?_, ?_⟩) ⟨rfl, trivial, rfl, trivial, trivial⟩) ?_
      refine aw_ret ?_
      have hr := Option.some.inj h
      subst hr
      exact ret_objs (.inr rfl) [1, 2] (objs' := []) (new := [.row 3 (x6.1.Voltages.map eSPhases), .row 3 (x6.1.Currents.map eSPhases)]) rfl (by simp) (by simp) rfl (by repeat' first | exact trivial | refine ⟨?_, ?_⟩) rfl rfl (by repeat' first | exact trivial | refine ⟨?_, ?_⟩) (fun _ => ⟨by simp [V.flat, V.flatA, V.flatC, D.flat], (flat_cons (flat_row eSPhases_flat _) (flat_cons (flat_row eSPhases_flat _) flat_nil))⟩) ⟨rfl, rfl, rfl⟩
theorem spec_FlowOfBytes_ok (n : Nat) (s_ : Str) (buses_ : Int) {r : SFlow × Bool} (h : m_spec_FlowOfBytes n s_ buses_ = some r) : ACall prog false 39 [.d (.str (bstr s_)), .d (.int .i64 buses_)] [] (fun v o new => v = .tup [.agg [.row 0 r.1.Voltages.length 0 r.1.Voltages.length, .row 1 r.1.Currents.length 0 r.1.Currents.length, .d (.int .i64 r.1.Rounds), .d (.bool r.1.Rests)], .d (.bool r.2)] ∧ o = [] ∧ new = [.row 3 (r.1.Voltages.map eSPhases), .row 3 (r.1.Currents.map eSPhases)]) := spec_FlowOfBytes_ok_fr0 false n s_ buses_ h
theorem spec_FlowOfBytes_ok_fr (n : Nat) (s_ : Str) (buses_ : Int) {r : SFlow × Bool} (h : m_spec_FlowOfBytes n s_ buses_ = some r) : ACall prog true 39 [.d (.str (bstr s_)), .d (.int .i64 buses_)] [] (fun v o new => v = .tup [.agg [.row 0 r.1.Voltages.length 0 r.1.Voltages.length, .row 1 r.1.Currents.length 0 r.1.Currents.length, .d (.int .i64 r.1.Rounds), .d (.bool r.1.Rests)], .d (.bool r.2)] ∧ o = [] ∧ new = [.row 3 (r.1.Voltages.map eSPhases), .row 3 (r.1.Currents.map eSPhases)]) := spec_FlowOfBytes_ok_fr0 true n s_ buses_ h

def m_impl_in (n : Nat) (n_ : Int) (low_ : Int) (high_ : Int) : Option Bool :=
  if n_ ≥ low_ then
    some (decide (n_ ≤ high_))
  else
    some false
theorem impl_in_ok_fr0 (fr : Bool) (n : Nat) (n_ : Int) (low_ : Int) (high_ : Int) {r : Bool} (h : m_impl_in n n_ low_ high_ = some r) : ACall prog fr 60 [.d (.int .i64 n_), .d (.int .i64 low_), .d (.int .i64 high_)] [] (fun v o new => v = .d (.bool r) ∧ o = [] ∧ new = []) := by
  refine acall_of_aw hτ func60 rfl (by simp) (by simp) ?_
  unfold m_impl_in at h
  refine aw_seq ?_
  refine aw_region ?_
  refine awl_val hτ rfl rfl rfl ?_
  refine awl_nil ?_
  refine aw_seq ?_
  refine aw_region ?_
  refine awl_val hτ rfl rfl rfl ?_
  refine awl_val hτ rfl rfl rfl ?_
  refine awl_val hτ rfl rfl rfl ?_
  refine awl_val hτ rfl rfl rfl ?_
  refine awl_split 10 rfl (fun hb3 => ?_) (fun hb3 => ?_)
  · have h := if_t h hb3
    refine awl_val hτ rfl rfl rfl ?_
    refine awl_val hτ rfl rfl rfl ?_
    refine awl_val hτ rfl rfl rfl ?_
    refine awl_val hτ rfl rfl rfl ?_
    refine awl_val hτ rfl rfl rfl ?_
    refine awl_nil ?_
    refine aw_weak (weak_ofP [] (l := [(6, .d (.bool (decide (n_ ≤ high_))))]) (objs := []) rfl (by simp) rfl (by repeat' first | exact trivial | refine ⟨?_, ?_⟩) ⟨rfl, trivial, trivial⟩) ?_
    refine aw_ret ?_
    have hr := Option.some.inj h
    subst hr
    exact ret_objs (.inr rfl) [] (objs' := []) (new := []) rfl (by simp) (by simp) rfl (by repeat' first | exact trivial | refine ⟨?_, ?_⟩) rfl rfl (by repeat' first | exact trivial | refine ⟨?_, ?_⟩) (fun _ => ⟨by simp [V.flat, V.flatA, V.flatC, D.flat], flat_nil⟩) ⟨rfl, rfl, rfl⟩
  · have h := if_f h hb3
    refine awl_skip rfl rfl ?_
    refine awl_skip rfl rfl ?_
    refine awl_skip rfl rfl ?_
    refine awl_val hτ rfl rfl rfl ?_
    refine awl_val hτ rfl rfl rfl ?_
    refine awl_nil ?_
    refine aw_weak (weak_ofP [] (l := [(6, .d (.bool false))]) (objs := []) rfl (by simp) rfl (by repeat' first | exact trivial | refine ⟨?_, ?_⟩) ⟨rfl, trivial, trivial⟩) ?_
    refine aw_ret ?_
    have hr := Option.some.inj h
    subst hr
    exact ret_objs (.inr rfl) [] (objs' := []) (new := []) rfl (by simp) (by simp) rfl (by repeat' first | exact trivial | refine ⟨?_, ?_⟩) rfl rfl (by repeat' first | exact trivial | refine ⟨?_, ?_⟩) (fun _ => ⟨by simp [V.flat, V.flatA, V.flatC, D.flat], flat_nil⟩) ⟨rfl, rfl, rfl⟩
theorem impl_in_ok (n : Nat) (n_ : Int) (low_ : Int) (high_ : Int) {r : Bool} (h : m_impl_in n n_ low_ high_ = some r) : ACall prog false 60 [.d (.int .i64 n_), .d (.int .i64 low_), .d (.int .i64 high_)] [] (fun v o new => v = .d (.bool r) ∧ o = [] ∧ new = []) := impl_in_ok_fr0 false n n_ low_ high_ h
theorem impl_in_ok_fr (n : Nat) (n_ : Int) (low_ : Int) (high_ : Int) {r : Bool} (h : m_impl_in n n_ low_ high_ = some r) : ACall prog true 60 [.d (.int .i64 n_), .d (.int .i64 low_), .d (.int .i64 high_)] [] (fun v o new => v = .d (.bool r) ∧ o = [] ∧ new = []) := impl_in_ok_fr0 true n n_ low_ high_ h

def m_impl_reader_number_j2 (n : Nat) (r_ : SReader) (many_ : Int) (v11 : Bool) (v18 : Int) : Option (Int × SReader) :=
  some (v18, (SReader.mk r_.s (w64 (r_.at_ + many_)) v11))
def m_impl_reader_number_l3 (n : Nat) (r_ : SReader) (many_ : Int) (v11 : Bool) : Nat → Int → Int → Option (Int × SReader)
  | 0, _, _ => none
  | m26 + 1, v21, v22 =>
    if v22 ≥ (0 : Int) then
      (getI r_.s (w64 (r_.at_ + v22))).bind fun x29 =>
      (m_impl_reader_number_l3 n r_ many_ v11 m26) (w64 ((w64 (v21 * 2 ^ min (8 : Int).toNat (IntKind.bits .i64))) + (w64 ((x29.toNat : Int))))) (w64 (v22 - (1 : Int)))
    else
      m_impl_reader_number_j2 n r_ many_ v11 v21
def m_impl_reader_number_j1 (n : Nat) (r_ : SReader) (many_ : Int) (v11 : Bool) : Option (Int × SReader) :=
  m_impl_reader_number_l3 n r_ many_ v11 n (0 : Int) (w64 (many_ - (1 : Int)))
def m_impl_reader_number_j4 (n : Nat) (r_ : SReader) (many_ : Int) (v33 : Bool) : Option (Int × SReader) :=
  if v33 = true then
    some ((0 : Int), (SReader.mk r_.s r_.at_ v33))
  else
    m_impl_reader_number_j1 n r_ many_ v33
def m_impl_reader_number (n : Nat) (r_ : SReader) (many_ : Int) : Option (Int × SReader) :=
  if r_.short = true then
    m_impl_reader_number_j4 n r_ many_ true
  else
    m_impl_reader_number_j4 n r_ many_ (decide ((w64 (r_.at_ + many_)) > (r_.s.length : Int)))
theorem impl_reader_number_ok_fr0 (fr : Bool) (n : Nat) (r_ : SReader) (many_ : Int) {r : Int × SReader} (h : m_impl_reader_number n r_ many_ = some r) : ACall prog fr 82 [.ptr 0 0, .d (.int .i64 many_)] [.box [.d (.str (bstr r_.s)), .d (.int .i64 r_.at_), .d (.bool r_.short)]] (fun v o new => v = .d (.int .i64 r.1) ∧ o = [.box [.d (.str (bstr r.2.s)), .d (.int .i64 r.2.at_), .d (.bool r.2.short)]] ∧ new = []) := by
  refine acall_of_aw hτ func82 rfl (by simp) (by simp) ?_
  unfold m_impl_reader_number at h
  refine aw_seq ?_
  refine aw_region ?_
  refine awl_val hτ rfl rfl rfl ?_
  refine awl_nil ?_
  refine aw_hk1 (ι := Bool) (fun v11 => St.of [(0, .ptr 0 0), (1, .d (.int .i64 many_))] [.box [.d (.str (bstr r_.s)), .d (.int .i64 r_.at_), .d (.bool v11)]] f82.ntmps 1) (fun v11 => m_impl_reader_number_j1 n r_ many_ v11 = some r) ?_ (fun hk30 => ?_)
  · rintro v11 h
    replace h : m_impl_reader_number_j1 n r_ many_ v11 = some r := h
    unfold m_impl_reader_number_j1 at h
    refine aw_seq ?_
    refine aw_region ?_
    refine awl_val hτ rfl rfl rfl ?_
    refine awl_nil ?_
    refine aw_hk1 (ι := Int) (fun v18 => St.of [(0, .ptr 0 0), (1, .d (.int .i64 many_)), (5, .d (.int .i64 v18))] [.box [.d (.str (bstr r_.s)), .d (.int .i64 r_.at_), .d (.bool v11)]] f82.ntmps 1) (fun v18 => m_impl_reader_number_j2 n r_ many_ v11 v18 = some r) ?_ (fun hk19 => ?_)
    · rintro v18 h
      replace h : m_impl_reader_number_j2 n r_ many_ v11 v18 = some r := h
      unfold m_impl_reader_number_j2 at h
      refine aw_seq ?_
      refine aw_region ?_
      refine awl_val hτ rfl rfl rfl ?_
      refine awl_val hτ rfl rfl rfl ?_
      refine awl_val hτ rfl rfl rfl ?_
      refine awl_val hτ rfl rfl rfl ?_
      refine awl_val hτ rfl rfl rfl ?_
      refine awl_val hτ rfl rfl rfl ?_
      refine awl_val hτ rfl rfl rfl ?_
      refine awl_val hτ rfl rfl rfl ?_
      refine awl_valH hτ rfl rfl rfl ?_
      refine awl_nil ?_
      refine aw_seq ?_
      refine aw_weak (weak_ofP [0] (l := [(5, .d (.int .i64 v18))]) (objs := [.box [.d (.str (bstr r_.s)), .d (.int .i64 (w64 (r_.at_ + many_))), .d (.bool v11)]]) rfl (by simp) rfl (by repeat' first | exact trivial | refine ⟨?_, ?_⟩) ⟨rfl, trivial, trivial⟩) ?_
      refine aw_region ?_
      refine awl_val hτ rfl rfl rfl ?_
      refine awl_val hτ rfl rfl rfl ?_
      refine awl_nil ?_
      refine aw_weak (weak_ofP [0] (l := [(4, .d (.int .i64 v18))]) (objs := [.box [.d (.str (bstr r_.s)), .d (.int .i64 (w64 (r_.at_ + many_))), .d (.bool v11)]]) rfl (by simp) rfl (by repeat' first | exact trivial | refine ⟨?_, ?_⟩) ⟨rfl, trivial, trivial⟩) ?_
      refine aw_ret ?_
      have hr := Option.some.inj h
      subst hr
      exact ret_objs (.inr rfl) [] (objs' := [.box [.d (.str (bstr r_.s)), .d (.int .i64 (w64 (r_.at_ + many_))), .d (.bool v11)]]) (new := []) rfl (by simp) (by simp) rfl (by repeat' first | exact trivial | refine ⟨?_, ?_⟩) rfl rfl (by repeat' first | exact trivial | refine ⟨?_, ?_⟩) (fun _ => ⟨by simp [V.flat, V.flatA, V.flatC, D.flat], (flat_cons (by simp [AObj.flat, V.flatC, D.flat]) flat_nil)⟩) ⟨rfl, rfl, rfl⟩
    · refine aw_seq ?_
      refine aw_seq ?_
      refine aw_region ?_
      refine awl_val hτ rfl rfl rfl ?_
      refine awl_val hτ rfl rfl rfl ?_
      refine awl_val hτ rfl rfl rfl ?_
      refine awl_nil ?_
      refine aw_block ?_
      refine aw_loop (ι := Nat × Int × Int) (fun (m26, v21, v22) => St.of [(0, .ptr 0 0), (1, .d (.int .i64 many_)), (5, .d (.int .i64 v21)), (6, .d (.int .i64 v22))] [.box [.d (.str (bstr r_.s)), .d (.int .i64 r_.at_), .d (.bool v11)]] f82.ntmps 1) (fun (m26, v21, v22) => m_impl_reader_number_l3 n r_ many_ v11 m26 v21 v22 = some r) (fun x => x.1) (n, (0 : Int), (w64 (many_ - (1 : Int)))) h (weak_ofP [0] (l := [(0, .ptr 0 0), (1, .d (.int .i64 many_)), (5, .d (.int .i64 (0 : Int))), (6, .d (.int .i64 (w64 (many_ - (1 : Int)))))]) (objs := [.box [.d (.str (bstr r_.s)), .d (.int .i64 r_.at_), .d (.bool v11)]]) rfl (by simp) rfl (by repeat' first | exact trivial | refine ⟨?_, ?_⟩) ⟨rfl, trivial, rfl, trivial, rfl, trivial, rfl, trivial, trivial⟩) ?_
      rintro ⟨m26, v21, v22⟩ h
      replace h : m_impl_reader_number_l3 n r_ many_ v11 m26 v21 v22 = some r := h
      rcases m26 with _ | m26
      · rw [m_impl_reader_number_l3] at h; cases h
      rw [m_impl_reader_number_l3] at h
      refine aw_seq ?_
      refine aw_seq ?_
      refine aw_region ?_
      refine awl_val hτ rfl rfl rfl ?_
      refine awl_val hτ rfl rfl rfl ?_
      refine awl_nil ?_
      refine aw_cond rfl (fun hc28 => ?_) (fun hc28 => ?_)
      · have h := if_t h hc28
        refine aw_skip ?_
        refine aw_seq ?_
        refine aw_block ?_
        refine any_start ?_
        refine any_val hτ [] 0 rfl rfl rfl rfl rfl ?_
        refine any_need hτ [] 1 rfl rfl rfl rfl rfl (by decide) ?_
        refine any_val hτ [] 2 rfl rfl rfl rfl rfl ?_
        refine any_val hτ [] 3 rfl rfl rfl rfl rfl ?_
        refine any_val hτ [0] 4 rfl rfl rfl rfl rfl ?_
        refine any_val hτ [0] 5 rfl rfl rfl rfl rfl ?_
        refine any_val hτ [] 6 rfl rfl rfl rfl rfl ?_
        refine any_val hτ [] 7 rfl rfl rfl rfl rfl ?_
        refine any_val hτ [0] 8 rfl rfl rfl rfl rfl ?_
        refine any_val hτ [0] 9 rfl rfl rfl rfl rfl ?_
        refine any_val hτ [] 10 rfl rfl rfl rfl rfl ?_
        refine any_val hτ [] 11 rfl rfl rfl rfl rfl ?_
        refine bnd_elim h fun x29 hx29 h => ?_
        refine any_need hτ (v := .d (.int .u8 (x29.toNat : Int))) [] 12 rfl rfl rfl rfl (Eq.trans rfl (or_sidx hx29)) (sidx_need hx29) ?_
        refine any_val hτ [] 13 rfl rfl rfl rfl rfl ?_
        refine any_val hτ [] 14 rfl rfl rfl rfl rfl ?_
        refine any_val hτ [] 15 rfl rfl rfl rfl rfl ?_
        refine any_done mixed (by kernel_rfl) ?_
        refine aw_weak (weak_ofP [0] (l := [(0, .ptr 0 0), (1, .d (.int .i64 many_)), (5, .d (.int .i64 (w64 ((w64 (v21 * 2 ^ min (8 : Int).toNat (IntKind.bits .i64))) + (w64 ((x29.toNat : Int))))))), (6, .d (.int .i64 v22))]) (objs := [.box [.d (.str (bstr r_.s)), .d (.int .i64 r_.at_), .d (.bool v11)]]) rfl (by simp) rfl (by repeat' first | exact trivial | refine ⟨?_, ?_⟩) ⟨rfl, trivial, rfl, trivial, rfl, trivial, rfl, trivial, trivial⟩) ?_
        refine aw_region ?_
        refine awl_val hτ rfl rfl rfl ?_
        refine awl_val hτ rfl rfl rfl ?_
        refine awl_val hτ rfl rfl rfl ?_
        refine awl_nil ?_
        exact ⟨(m26, (w64 ((w64 (v21 * 2 ^ min (8 : Int).toNat (IntKind.bits .i64))) + (w64 ((x29.toNat : Int))))), (w64 (v22 - (1 : Int)))), h, Nat.lt_succ_self m26, (weak_ofP [0] (l := [(0, .ptr 0 0), (1, .d (.int .i64 many_)), (5, .d (.int .i64 (w64 ((w64 (v21 * 2 ^ min (8 : Int).toNat (IntKind.bits .i64))) + (w64 ((x29.toNat : Int))))))), (6, .d (.int .i64 (w64 (v22 - (1 : Int)))))]) (objs := [.box [.d (.str (bstr r_.s)), .d (.int .i64 r_.at_), .d (.bool v11)]]) rfl (by simp) rfl (by repeat' first | exact trivial | refine ⟨?_, ?_⟩) ⟨rfl, trivial, rfl, trivial, rfl, trivial, rfl, trivial, trivial⟩)⟩
      · have h := if_f h hc28
        refine aw_exit ?_
        refine aw_weak (weak_ofP [0] (l := [(0, .ptr 0 0), (1, .d (.int .i64 many_)), (5, .d (.int .i64 v21))]) (objs := [.box [.d (.str (bstr r_.s)), .d (.int .i64 r_.at_), .d (.bool v11)]]) rfl (by simp) rfl (by repeat' first | exact trivial | refine ⟨?_, ?_⟩) ⟨rfl, trivial, rfl, trivial, rfl, trivial, trivial⟩) ?_
        exact hk19 v21 h
  · refine aw_seq ?_
    refine aw_hk1 (ι := Bool) (fun v33 => St.of [(0, .ptr 0 0), (1, .d (.int .i64 many_))] [.box [.d (.str (bstr r_.s)), .d (.int .i64 r_.at_), .d (.bool v33)]] f82.ntmps 1) (fun v33 => m_impl_reader_number_j4 n r_ many_ v33 = some r) ?_ (fun hk35 => ?_)
    · rintro v33 h
      replace h : m_impl_reader_number_j4 n r_ many_ v33 = some r := h
      unfold m_impl_reader_number_j4 at h
      refine aw_seq ?_
      refine aw_region ?_
      refine awl_val hτ rfl rfl rfl ?_
      refine awl_val hτ rfl rfl rfl ?_
      refine awl_val hτ rfl rfl rfl ?_
      refine awl_val hτ rfl rfl rfl ?_
      refine awl_nil ?_
      refine aw_cond rfl (fun hc34 => ?_) (fun hc34 => ?_)
      · have h := if_bt h hc34
        refine aw_seq ?_
        refine aw_region ?_
        refine awl_val hτ rfl rfl rfl ?_
        refine awl_nil ?_
        refine aw_weak (weak_ofP [0] (l := [(4, .d (.int .i64 (0 : Int)))]) (objs := [.box [.d (.str (bstr r_.s)), .d (.int .i64 r_.at_), .d (.bool v33)]]) rfl (by simp) rfl (by repeat' first | exact trivial | refine ⟨?_, ?_⟩) ⟨rfl, trivial, trivial⟩) ?_
        refine aw_ret ?_
        have hr := Option.some.inj h
        subst hr
        exact ret_objs (.inr rfl) [] (objs' := [.box [.d (.str (bstr r_.s)), .d (.int .i64 r_.at_), .d (.bool v33)]]) (new := []) rfl (by simp) (by simp) rfl (by repeat' first | exact trivial | refine ⟨?_, ?_⟩) rfl rfl (by repeat' first | exact trivial | refine ⟨?_, ?_⟩) (fun _ => ⟨by simp [V.flat, V.flatA, V.flatC, D.flat], (flat_cons (by simp [AObj.flat, V.flatC, D.flat]) flat_nil)⟩) ⟨rfl, rfl, rfl⟩
      · have h := if_bf h hc34
        refine aw_skip ?_
        refine aw_weak (weak_ofP [0] (l := [(0, .ptr 0 0), (1, .d (.int .i64 many_))]) (objs := [.box [.d (.str (bstr r_.s)), .d (.int .i64 r_.at_), .d (.bool v33)]]) rfl (by simp) rfl (by repeat' first | exact trivial | refine ⟨?_, ?_⟩) ⟨rfl, trivial, rfl, trivial, trivial⟩) ?_
        exact hk30 v33 h
    · refine aw_seq ?_
      refine any_start ?_
      refine any_val hτ [] 0 rfl rfl rfl rfl rfl ?_
      refine any_val hτ [] 1 rfl rfl rfl rfl rfl ?_
      refine any_val hτ [] 2 rfl rfl rfl rfl rfl ?_
      refine any_val hτ [0] 3 rfl rfl rfl rfl rfl ?_
      refine any_val hτ [0] 4 rfl rfl rfl rfl rfl ?_
      refine any_val hτ [] 5 rfl rfl rfl rfl rfl ?_
      refine any_split 12 rfl (fun hb36 => ?_) (fun hb36 => ?_)
      · have h := if_bt h hb36
        refine any_skip 6 rfl rfl rfl ?_
        refine any_skip 7 rfl rfl rfl ?_
        refine any_skip 8 rfl rfl rfl ?_
        refine any_skip 9 rfl rfl rfl ?_
        refine any_skip 10 rfl rfl rfl ?_
        refine any_skip 11 rfl rfl rfl ?_
        refine any_skip 12 rfl rfl rfl ?_
        refine any_skip 13 rfl rfl rfl ?_
        refine any_skip 14 rfl rfl rfl ?_
        refine any_skip 15 rfl rfl rfl ?_
        refine any_skip 16 rfl rfl rfl ?_
        refine any_skip 17 rfl rfl rfl ?_
        refine any_val hτ [] 18 rfl rfl rfl rfl rfl ?_
        refine any_val hτ [] 19 rfl rfl rfl rfl rfl ?_
        refine any_val hτ [0] 20 rfl rfl rfl rfl rfl ?_
        refine any_valHP hτ [] 21 rfl rfl rfl rfl trivial ?_
        refine any_done mixed (by kernel_rfl) ?_
        refine aw_weak (weak_ofP [0] (l := [(0, .ptr 0 0), (1, .d (.int .i64 many_))]) (objs := [.box [.d (.str (bstr r_.s)), .d (.int .i64 r_.at_), .d (.bool true)]]) rfl (by simp) rfl (by repeat' first | exact trivial | refine ⟨?_, ?_⟩) ⟨rfl, trivial, rfl, trivial, trivial⟩) ?_
        exact hk35 true h
      · have h := if_bf h hb36
        refine any_val hτ [] 6 rfl rfl rfl rfl rfl ?_
        refine any_val hτ [] 7 rfl rfl rfl rfl rfl ?_
        refine any_val hτ [0] 8 rfl rfl rfl rfl rfl ?_
        refine any_val hτ [0] 9 rfl rfl rfl rfl rfl ?_
        refine any_val hτ [] 10 rfl rfl rfl rfl rfl ?_
        refine any_val hτ [] 11 rfl rfl rfl rfl rfl ?_
        refine any_val hτ [] 12 rfl rfl rfl rfl rfl ?_
        refine any_val hτ [] 13 rfl rfl rfl rfl rfl ?_
        refine any_val hτ [0] 14 rfl rfl rfl rfl rfl ?_
        refine any_val hτ [0] 15 rfl rfl rfl rfl rfl ?_
        refine any_val hτ [] 16 rfl rfl rfl rfl rfl ?_
        refine any_val hτ [] 17 rfl rfl rfl rfl rfl ?_
        refine any_val hτ [] 18 rfl rfl rfl rfl rfl ?_
        refine any_val hτ [] 19 rfl rfl rfl rfl rfl ?_
        refine any_val hτ [0] 20 rfl rfl rfl rfl rfl ?_
        refine any_valHP hτ [] 21 rfl rfl rfl rfl trivial ?_
        refine any_done mixed (by kernel_rfl) ?_
        refine aw_weak (weak_ofP [0] (l := [(0, .ptr 0 0), (1, .d (.int .i64 many_))]) (objs := [.box [.d (.str (bstr r_.s)), .d (.int .i64 r_.at_), .d (.bool (decide ((w64 (r_.at_ + many_)) > (r_.s.length : Int))))]]) rfl (by simp) rfl (by repeat' first | exact trivial | refine ⟨?_, ?_⟩) ⟨rfl, trivial, rfl, trivial, trivial⟩) ?_
        exact hk35 (decide ((w64 (r_.at_ + many_)) > (r_.s.length : Int))) h
theorem impl_reader_number_ok (n : Nat) (r_ : SReader) (many_ : Int) {r : Int × SReader} (h : m_impl_reader_number n r_ many_ = some r) : ACall prog false 82 [.ptr 0 0, .d (.int .i64 many_)] [.box [.d (.str (bstr r_.s)), .d (.int .i64 r_.at_), .d (.bool r_.short)]] (fun v o new => v = .d (.int .i64 r.1) ∧ o = [.box [.d (.str (bstr r.2.s)), .d (.int .i64 r.2.at_), .d (.bool r.2.short)]] ∧ new = []) := impl_reader_number_ok_fr0 false n r_ many_ h
theorem impl_reader_number_ok_fr (n : Nat) (r_ : SReader) (many_ : Int) {r : Int × SReader} (h : m_impl_reader_number n r_ many_ = some r) : ACall prog true 82 [.ptr 0 0, .d (.int .i64 many_)] [.box [.d (.str (bstr r_.s)), .d (.int .i64 r_.at_), .d (.bool r_.short)]] (fun v o new => v = .d (.int .i64 r.1) ∧ o = [.box [.d (.str (bstr r.2.s)), .d (.int .i64 r.2.at_), .d (.bool r.2.short)]] ∧ new = []) := impl_reader_number_ok_fr0 true n r_ many_ h

def m_impl_FromBits (n : Nat) (n_ : Int) : Option (Nat × Bool) :=
  (m_impl_in n n_ (0 : Int) (4294967295 : Int)).bind fun x4 =>
  if x4 = true then
    grd ((IntKind.wrap .u32 (n_)).toNat < 4294967296) <|
    some ((canon .f32 (IntKind.wrap .u32 (n_)).toNat), true)
  else
    some ((0 : Nat), false)
theorem impl_FromBits_ok_fr0 (fr : Bool) (n : Nat) (n_ : Int) {r : Nat × Bool} (h : m_impl_FromBits n n_ = some r) : ACall prog fr 142 [.d (.int .i64 n_)] [] (fun v o new => v = .tup [.d (.fl .f32 r.1), .d (.bool r.2)] ∧ o = [] ∧ new = []) := by
  refine acall_of_aw hτ func142 rfl (by simp) (by simp) ?_
  unfold m_impl_FromBits at h
  refine aw_seq ?_
  refine aw_region ?_
  refine awl_val hτ rfl rfl rfl ?_
  refine awl_val hτ rfl rfl rfl ?_
  refine awl_nil ?_
  refine aw_seq ?_
  refine aw_seq ?_
  refine aw_region ?_
  refine awl_val hτ rfl rfl rfl ?_
  refine bnd_elim h fun x4 hx4 h => ?_
  refine awl_callP hτ false [] rfl rfl rfl (enterOk func60 rfl rfl) rfl rfl (by simp) ⟨trivial, trivial, trivial, trivial⟩ (by repeat' first | exact trivial | refine ⟨?_, ?_⟩) (impl_in_ok n n_ (0 : Int) (4294967295 : Int) hx4) ?_
  rintro r0 o0 n0 ⟨rfl, rfl, rfl⟩ -
  refine awl_val hτ rfl rfl rfl ?_
  refine awl_nil ?_
  refine aw_cond rfl (fun hc5 => ?_) (fun hc5 => ?_)
  · have hc5 := not_t hc5
    have h := if_bf h hc5
    refine aw_seq ?_
    refine aw_region ?_
    refine awl_val hτ rfl rfl rfl ?_
    refine awl_val hτ rfl rfl rfl ?_
    refine awl_nil ?_
    refine aw_weak (weak_ofP [] (l := [(2, .d (.fl .f32 (0 : Nat))), (3, .d (.bool false))]) (objs := []) rfl (by simp) rfl (by repeat' first | exact trivial | refine ⟨?_, ?_⟩) ⟨rfl, trivial, rfl, trivial, trivial⟩) ?_
    refine aw_ret ?_
    have hr := Option.some.inj h
    subst hr
    exact ret_objs (.inr rfl) [] (objs' := []) (new := []) rfl (by simp) (by simp) rfl (by repeat' first | exact trivial | refine ⟨?_, ?_⟩) rfl rfl (by repeat' first | exact trivial | refine ⟨?_, ?_⟩) (fun _ => ⟨by simp [V.flat, V.flatA, V.flatC, D.flat], flat_nil⟩) ⟨rfl, rfl, rfl⟩
  · have hc5 := not_f hc5
    have h := if_bt h hc5
    refine aw_skip ?_
    refine aw_seq ?_
    refine aw_region ?_
    refine awl_val hτ rfl rfl rfl ?_
    refine awl_val hτ rfl rfl rfl ?_
    refine grd_elim h fun hg6 h => ?_
    refine awl_ext hτ rfl rfl rfl (ext146 hg6) ?_
    refine awl_val hτ rfl rfl rfl ?_
    refine awl_val hτ rfl rfl rfl ?_
    refine awl_nil ?_
    refine aw_weak (weak_ofP [] (l := [(2, .d (.fl .f32 (canon .f32 (IntKind.wrap .u32 (n_)).toNat))), (3, .d (.bool true))]) (objs := []) rfl (by simp) rfl (by repeat' first | exact trivial | refine ⟨?_, ?_⟩) ⟨rfl, trivial, rfl, trivial, trivial⟩) ?_
    refine aw_ret ?_
    have hr := Option.some.inj h
    subst hr
    exact ret_objs (.inr rfl) [] (objs' := []) (new := []) rfl (by simp) (by simp) rfl (by repeat' first | exact trivial | refine ⟨?_, ?_⟩) rfl rfl (by repeat' first | exact trivial | refine ⟨?_, ?_⟩) (fun _ => ⟨by simp [V.flat, V.flatA, V.flatC, D.flat], flat_nil⟩) ⟨rfl, rfl, rfl⟩
theorem impl_FromBits_ok (n : Nat) (n_ : Int) {r : Nat × Bool} (h : m_impl_FromBits n n_ = some r) : ACall prog false 142 [.d (.int .i64 n_)] [] (fun v o new => v = .tup [.d (.fl .f32 r.1), .d (.bool r.2)] ∧ o = [] ∧ new = []) := impl_FromBits_ok_fr0 false n n_ h
theorem impl_FromBits_ok_fr (n : Nat) (n_ : Int) {r : Nat × Bool} (h : m_impl_FromBits n n_ = some r) : ACall prog true 142 [.d (.int .i64 n_)] [] (fun v o new => v = .tup [.d (.fl .f32 r.1), .d (.bool r.2)] ∧ o = [] ∧ new = []) := impl_FromBits_ok_fr0 true n n_ h

def m_impl_reader_float (n : Nat) (r_ : SReader) : Option (Nat × SReader) :=
  (m_impl_reader_number n r_ (4 : Int)).bind fun x3 =>
  (m_impl_FromBits n x3.1).bind fun x4 =>
  some (x4.1, x3.2)
theorem impl_reader_float_ok_fr0 (fr : Bool) (n : Nat) (r_ : SReader) {r : Nat × SReader} (h : m_impl_reader_float n r_ = some r) : ACall prog fr 133 [.ptr 0 0] [.box [.d (.str (bstr r_.s)), .d (.int .i64 r_.at_), .d (.bool r_.short)]] (fun v o new => v = .d (.fl .f32 r.1) ∧ o = [.box [.d (.str (bstr r.2.s)), .d (.int .i64 r.2.at_), .d (.bool r.2.short)]] ∧ new = []) := by
  refine acall_of_aw hτ func133 rfl (by simp) (by simp) ?_
  unfold m_impl_reader_float at h
  refine aw_seq ?_
  refine aw_region ?_
  refine awl_val hτ rfl rfl rfl ?_
  refine awl_nil ?_
  refine aw_seq ?_
  refine aw_region ?_
  refine awl_val hτ rfl rfl rfl ?_
  refine bnd_elim h fun x3 hx3 h => ?_
  refine awl_callP hτ false [0] rfl rfl rfl (enterOk func82 rfl rfl) rfl rfl (by simp) ⟨trivial, trivial, trivial⟩ (by repeat' first | exact trivial | refine ⟨?_, ?_⟩) (impl_reader_number_ok n r_ (4 : Int) hx3) ?_
  rintro r0 o0 n0 ⟨rfl, rfl, rfl⟩ -
  refine bnd_elim h fun x4 hx4 h => ?_
  refine awl_callP hτ false [] rfl rfl rfl (enterOk func142 rfl rfl) rfl rfl (by simp) ⟨trivial, trivial⟩ (by repeat' first | exact trivial | refine ⟨?_, ?_⟩) (impl_FromBits_ok n x3.1 hx4) ?_
  rintro r0 o0 n0 ⟨rfl, rfl, rfl⟩ -
  refine awl_val hτ rfl rfl rfl ?_
  refine awl_val hτ rfl rfl rfl ?_
  refine awl_val hτ rfl rfl rfl ?_
  refine awl_val hτ rfl rfl rfl ?_
  refine awl_val hτ rfl rfl rfl ?_
  refine awl_nil ?_
  refine aw_seq ?_
  refine aw_weak (weak_ofP [0] (l := [(3, .d (.fl .f32 x4.1))]) (objs := [.box [.d (.str (bstr x3.2.s)), .d (.int .i64 x3.2.at_), .d (.bool x3.2.short)]]) rfl (by simp) rfl (by repeat' first | exact trivial | refine ⟨?_, ?_⟩) ⟨rfl, trivial, trivial⟩) ?_
  refine aw_region ?_
  refine awl_val hτ rfl rfl rfl ?_
  refine awl_val hτ rfl rfl rfl ?_
  refine awl_nil ?_
  refine aw_weak (weak_ofP [0] (l := [(2, .d (.fl .f32 x4.1))]) (objs := [.box [.d (.str (bstr x3.2.s)), .d (.int .i64 x3.2.at_), .d (.bool x3.2.short)]]) rfl (by simp) rfl (by repeat' first | exact trivial | refine ⟨?_, ?_⟩) ⟨rfl, trivial, trivial⟩) ?_
  refine aw_ret ?_
  have hr := Option.some.inj h
  subst hr
  exact ret_objs (.inr rfl) [] (objs' := [.box [.d (.str (bstr x3.2.s)), .d (.int .i64 x3.2.at_), .d (.bool x3.2.short)]]) (new := []) rfl (by simp) (by simp) rfl (by repeat' first | exact trivial | refine ⟨?_, ?_⟩) rfl rfl (by repeat' first | exact trivial | refine ⟨?_, ?_⟩) (fun _ => ⟨by simp [V.flat, V.flatA, V.flatC, D.flat], (flat_cons (by simp [AObj.flat, V.flatC, D.flat]) flat_nil)⟩) ⟨rfl, rfl, rfl⟩
theorem impl_reader_float_ok (n : Nat) (r_ : SReader) {r : Nat × SReader} (h : m_impl_reader_float n r_ = some r) : ACall prog false 133 [.ptr 0 0] [.box [.d (.str (bstr r_.s)), .d (.int .i64 r_.at_), .d (.bool r_.short)]] (fun v o new => v = .d (.fl .f32 r.1) ∧ o = [.box [.d (.str (bstr r.2.s)), .d (.int .i64 r.2.at_), .d (.bool r.2.short)]] ∧ new = []) := impl_reader_float_ok_fr0 false n r_ h
theorem impl_reader_float_ok_fr (n : Nat) (r_ : SReader) {r : Nat × SReader} (h : m_impl_reader_float n r_ = some r) : ACall prog true 133 [.ptr 0 0] [.box [.d (.str (bstr r_.s)), .d (.int .i64 r_.at_), .d (.bool r_.short)]] (fun v o new => v = .d (.fl .f32 r.1) ∧ o = [.box [.d (.str (bstr r.2.s)), .d (.int .i64 r.2.at_), .d (.bool r.2.short)]] ∧ new = []) := impl_reader_float_ok_fr0 true n r_ h

def m_impl_reader_pair (n : Nat) (r_ : SReader) : Option (Cx × SReader) :=
  (m_impl_reader_float n r_).bind fun x3 =>
  (m_impl_reader_float n x3.2).bind fun x4 =>
  some ((Cx.mk x3.1 x4.1), x4.2)
theorem impl_reader_pair_ok_fr0 (fr : Bool) (n : Nat) (r_ : SReader) {r : Cx × SReader} (h : m_impl_reader_pair n r_ = some r) : ACall prog fr 111 [.ptr 0 0] [.box [.d (.str (bstr r_.s)), .d (.int .i64 r_.at_), .d (.bool r_.short)]] (fun v o new => v = .d (.cx .f32 r.1.re r.1.im) ∧ o = [.box [.d (.str (bstr r.2.s)), .d (.int .i64 r.2.at_), .d (.bool r.2.short)]] ∧ new = []) := by
  refine acall_of_aw hτ func111 rfl (by simp) (by simp) ?_
  unfold m_impl_reader_pair at h
  refine aw_seq ?_
  refine aw_region ?_
  refine awl_val hτ rfl rfl rfl ?_
  refine awl_nil ?_
  refine aw_seq ?_
  refine aw_region ?_
  refine awl_val hτ rfl rfl rfl ?_
  refine bnd_elim h fun x3 hx3 h => ?_
  refine awl_callP hτ false [0] rfl rfl rfl (enterOk func133 rfl rfl) rfl rfl (by simp) ⟨trivial, trivial⟩ (by repeat' first | exact trivial | refine ⟨?_, ?_⟩) (impl_reader_float_ok n r_ hx3) ?_
  rintro r0 o0 n0 ⟨rfl, rfl, rfl⟩ -
  refine awl_val hτ rfl rfl rfl ?_
  refine awl_nil ?_
  refine aw_seq ?_
  refine aw_region ?_
  refine awl_val hτ rfl rfl rfl ?_
  refine awl_val hτ rfl rfl rfl ?_
  refine bnd_elim h fun x4 hx4 h => ?_
  refine awl_callP hτ false [0] rfl rfl rfl (enterOk func133 rfl rfl) rfl rfl (by simp) ⟨trivial, trivial⟩ (by repeat' first | exact trivial | refine ⟨?_, ?_⟩) (impl_reader_float_ok n x3.2 hx4) ?_
  rintro r0 o0 n0 ⟨rfl, rfl, rfl⟩ -
  refine awl_val hτ rfl rfl rfl ?_
  refine awl_val hτ rfl rfl rfl ?_
  refine awl_nil ?_
  refine aw_weak (weak_ofP [0] (l := [(2, .d (.cx .f32 x3.1 x4.1))]) (objs := [.box [.d (.str (bstr x4.2.s)), .d (.int .i64 x4.2.at_), .d (.bool x4.2.short)]]) rfl (by simp) rfl (by repeat' first | exact trivial | refine ⟨?_, ?_⟩) ⟨rfl, trivial, trivial⟩) ?_
  refine aw_ret ?_
  have hr := Option.some.inj h
  subst hr
  exact ret_objs (.inr rfl) [] (objs' := [.box [.d (.str (bstr x4.2.s)), .d (.int .i64 x4.2.at_), .d (.bool x4.2.short)]]) (new := []) rfl (by simp) (by simp) rfl (by repeat' first | exact trivial | refine ⟨?_, ?_⟩) rfl rfl (by repeat' first | exact trivial | refine ⟨?_, ?_⟩) (fun _ => ⟨by simp [V.flat, V.flatA, V.flatC, D.flat], (flat_cons (by simp [AObj.flat, V.flatC, D.flat]) flat_nil)⟩) ⟨rfl, rfl, rfl⟩
theorem impl_reader_pair_ok (n : Nat) (r_ : SReader) {r : Cx × SReader} (h : m_impl_reader_pair n r_ = some r) : ACall prog false 111 [.ptr 0 0] [.box [.d (.str (bstr r_.s)), .d (.int .i64 r_.at_), .d (.bool r_.short)]] (fun v o new => v = .d (.cx .f32 r.1.re r.1.im) ∧ o = [.box [.d (.str (bstr r.2.s)), .d (.int .i64 r.2.at_), .d (.bool r.2.short)]] ∧ new = []) := impl_reader_pair_ok_fr0 false n r_ h
theorem impl_reader_pair_ok_fr (n : Nat) (r_ : SReader) {r : Cx × SReader} (h : m_impl_reader_pair n r_ = some r) : ACall prog true 111 [.ptr 0 0] [.box [.d (.str (bstr r_.s)), .d (.int .i64 r_.at_), .d (.bool r_.short)]] (fun v o new => v = .d (.cx .f32 r.1.re r.1.im) ∧ o = [.box [.d (.str (bstr r.2.s)), .d (.int .i64 r.2.at_), .d (.bool r.2.short)]] ∧ new = []) := impl_reader_pair_ok_fr0 true n r_ h

def m_impl_reader_phases (n : Nat) (r_ : SReader) : Option (SPhases × SReader) :=
  (m_impl_reader_pair n r_).bind fun x4 =>
  (m_impl_reader_pair n x4.2).bind fun x5 =>
  (m_impl_reader_pair n x5.2).bind fun x6 =>
  some ((SPhases.mk x4.1 x5.1 x6.1), x6.2)
theorem impl_reader_phases_ok_fr0 (fr : Bool) (n : Nat) (r_ : SReader) {r : SPhases × SReader} (h : m_impl_reader_phases n r_ = some r) : ACall prog fr 83 [.ptr 0 0] [.box [.d (.str (bstr r_.s)), .d (.int .i64 r_.at_), .d (.bool r_.short)]] (fun v o new => v = .agg [.d (.cx .f32 r.1.A.re r.1.A.im), .d (.cx .f32 r.1.B.re r.1.B.im), .d (.cx .f32 r.1.C.re r.1.C.im)] ∧ o = [.box [.d (.str (bstr r.2.s)), .d (.int .i64 r.2.at_), .d (.bool r.2.short)]] ∧ new = []) := by
  refine acall_of_aw hτ func83 rfl (by simp) (by simp) ?_
  unfold m_impl_reader_phases at h
  refine aw_seq ?_
  refine aw_region ?_
  refine awl_valH hτ rfl rfl rfl ?_
  refine awl_nil ?_
  refine aw_seq ?_
  refine aw_region ?_
  refine awl_val hτ rfl rfl rfl ?_
  refine bnd_elim h fun x4 hx4 h => ?_
  refine awl_callP hτ false [0] rfl rfl rfl (enterOk func111 rfl rfl) rfl rfl (by simp) ⟨trivial, trivial⟩ (by repeat' first | exact trivial | refine ⟨?_, ?_⟩) (impl_reader_pair_ok n r_ hx4) ?_
  rintro r0 o0 n0 ⟨rfl, rfl, rfl⟩ -
  refine awl_val hτ rfl rfl rfl ?_
  refine awl_nil ?_
  refine aw_seq ?_
  refine aw_region ?_
  refine awl_val hτ rfl rfl rfl ?_
  refine bnd_elim h fun x5 hx5 h => ?_
  refine awl_callP hτ false [0] rfl rfl rfl (enterOk func111 rfl rfl) rfl rfl (by simp) ⟨trivial, trivial⟩ (by repeat' first | exact trivial | refine ⟨?_, ?_⟩) (impl_reader_pair_ok n x4.2 hx5) ?_
  rintro r0 o0 n0 ⟨rfl, rfl, rfl⟩ -
  refine awl_val hτ rfl rfl rfl ?_
  refine awl_nil ?_
  refine aw_seq ?_
  refine aw_weak (weak_ofP [0, 1] (l := [(0, .ptr 0 0), (2, .ptr 1 0), (3, .d (.cx .f32 x4.1.re x4.1.im)), (4, .d (.cx .f32 x5.1.re x5.1.im))]) (objs := [.box [.d (.str (bstr x5.2.s)), .d (.int .i64 x5.2.at_), .d (.bool x5.2.short)], .box [.d (.cx .f32 (0 : Nat) (0 : Nat)), .d (.cx .f32 (0 : Nat) (0 : Nat)), .d (.cx .f32 (0 : Nat) (0 : Nat))]]) rfl (by simp) rfl (by repeat' first | exact trivial | refine ⟨?_, ?_⟩) ⟨rfl, trivial, rfl, trivial, rfl, trivial, rfl, trivial, trivial⟩) ?_
  refine aw_region ?_
  refine awl_val hτ rfl rfl rfl ?_
  refine awl_val hτ rfl rfl rfl ?_
  refine awl_val hτ rfl rfl rfl ?_
  refine bnd_elim h fun x6 hx6 h => ?_
  refine awl_callP hτ false [0] rfl rfl rfl (enterOk func111 rfl rfl) rfl rfl (by simp) ⟨trivial, trivial⟩ (by repeat' first | exact trivial | refine ⟨?_, ?_⟩) (impl_reader_pair_ok n x5.2 hx6) ?_
  rintro r0 o0 n0 ⟨rfl, rfl, rfl⟩ -
  refine awl_val hτ rfl rfl rfl ?_
  refine awl_valH hτ rfl rfl rfl ?_
  refine awl_nil ?_
  refine aw_weak (weak_ofP [0, 1] (l := [(2, .ptr 1 0)]) (objs := [.box [.d (.str (bstr x6.2.s)), .d (.int .i64 x6.2.at_), .d (.bool x6.2.short)], .box [.d (.cx .f32 x4.1.re x4.1.im), .d (.cx .f32 x5.1.re x5.1.im), .d (.cx .f32 x6.1.re x6.1.im)]]) rfl (by simp) rfl (by repeat' first | exact trivial | refine ⟨?_, ?_⟩) ⟨rfl, trivial, trivial⟩) ?_
  refine aw_ret ?_
  have hr := Option.some.inj h
  subst hr
  exact ret_objs (.inr rfl) [] (objs' := [.box [.d (.str (bstr x6.2.s)), .d (.int .i64 x6.2.at_), .d (.bool x6.2.short)]]) (new := []) rfl (by simp) (by simp) rfl (by repeat' first | exact trivial | refine ⟨?_, ?_⟩) rfl rfl (by repeat' first | exact trivial | refine ⟨?_, ?_⟩) (fun _ => ⟨by simp [V.flat, V.flatA, V.flatC, D.flat], (flat_cons (by simp [AObj.flat, V.flatC, D.flat]) flat_nil)⟩) ⟨rfl, rfl, rfl⟩
theorem impl_reader_phases_ok (n : Nat) (r_ : SReader) {r : SPhases × SReader} (h : m_impl_reader_phases n r_ = some r) : ACall prog false 83 [.ptr 0 0] [.box [.d (.str (bstr r_.s)), .d (.int .i64 r_.at_), .d (.bool r_.short)]] (fun v o new => v = .agg [.d (.cx .f32 r.1.A.re r.1.A.im), .d (.cx .f32 r.1.B.re r.1.B.im), .d (.cx .f32 r.1.C.re r.1.C.im)] ∧ o = [.box [.d (.str (bstr r.2.s)), .d (.int .i64 r.2.at_), .d (.bool r.2.short)]] ∧ new = []) := impl_reader_phases_ok_fr0 false n r_ h
theorem impl_reader_phases_ok_fr (n : Nat) (r_ : SReader) {r : SPhases × SReader} (h : m_impl_reader_phases n r_ = some r) : ACall prog true 83 [.ptr 0 0] [.box [.d (.str (bstr r_.s)), .d (.int .i64 r_.at_), .d (.bool r_.short)]] (fun v o new => v = .agg [.d (.cx .f32 r.1.A.re r.1.A.im), .d (.cx .f32 r.1.B.re r.1.B.im), .d (.cx .f32 r.1.C.re r.1.C.im)] ∧ o = [.box [.d (.str (bstr r.2.s)), .d (.int .i64 r.2.at_), .d (.bool r.2.short)]] ∧ new = []) := impl_reader_phases_ok_fr0 true n r_ h

def m_impl_bytesOf_j1 (n : Nat) (v17 : List Int) : Option Str :=
  some (chars v17)
def m_impl_bytesOf_l2 (n : Nat) (many_ : Int) : Nat → Int → List Int → Int → Option Str
  | 0, _, _, _ => none
  | m27 + 1, v20, v21, v22 =>
    if v22 < many_ then
      grd (room (v21.length + 1) 1) <|
      (m_impl_bytesOf_l2 n many_ m27) (v20.fdiv (2 ^ min (8 : Int).toNat (IntKind.bits .i64))) (v21 ++ [(IntKind.wrap .u8 (v20))]) (w64 (v22 + (1 : Int)))
    else
      m_impl_bytesOf_j1 n v21
def m_impl_bytesOf (n : Nat) (n_ : Int) (many_ : Int) : Option Str :=
  m_impl_bytesOf_l2 n many_ n n_ ([] : List Int) (0 : Int)
theorem impl_bytesOf_ok_fr0 (fr : Bool) (n : Nat) (n_ : Int) (many_ : Int) {r : Str} (h : m_impl_bytesOf n n_ many_ = some r) : ACall prog fr 113 [.d (.int .i64 n_), .d (.int .i64 many_)] [] (fun v o new => v = .d (.str (bstr r)) ∧ o = [] ∧ new = []) := by
  refine acall_of_aw hτ func113 rfl (by simp) (by simp) ?_
  unfold m_impl_bytesOf at h
  refine aw_seq ?_
  refine aw_region ?_
  refine awl_val hτ rfl rfl rfl ?_
  refine awl_nil ?_
  refine aw_seq ?_
  refine aw_region ?_
  refine awl_valH hτ rfl rfl rfl ?_
  refine awl_val hτ rfl rfl rfl ?_
  refine awl_nil ?_
  refine aw_hk1 (ι := List Int) (fun v17 => St.of [(5, .row 0 v17.length 0 v17.length)] [.row 1 (v17.map eIntu8)] f113.ntmps 0) (fun v17 => m_impl_bytesOf_j1 n v17 = some r) ?_ (fun hk18 => ?_)
  · rintro v17 h
    replace h : m_impl_bytesOf_j1 n v17 = some r := h
    unfold m_impl_bytesOf_j1 at h
    refine aw_seq ?_
    refine aw_region ?_
    refine awl_val hτ rfl rfl rfl ?_
    refine awl_x rfl rfl (x_b2s hτ (f := eIntu8) (l := v17) rfl rfl rfl rfl rfl rfl rfl (fun _ => rfl) (slice_row v17 rfl rfl) ⟨len_map _, by omega⟩) ?_
    refine awl_val hτ rfl rfl rfl ?_
    refine awl_nil ?_
    refine aw_weak (weak_ofP [] (l := [(4, .d (.str (bstr (chars v17))))]) (objs := []) rfl (by simp) rfl (by repeat' first | exact trivial | refine ⟨?_, ?_⟩) ⟨rfl, trivial, trivial⟩) ?_
    refine aw_ret ?_
    have hr := Option.some.inj h
    subst hr
    exact ret_objs (.inr rfl) [] (objs' := []) (new := []) rfl (by simp) (by simp) rfl (by repeat' first | exact trivial | refine ⟨?_, ?_⟩) rfl rfl (by repeat' first | exact trivial | refine ⟨?_, ?_⟩) (fun _ => ⟨by simp [V.flat, V.flatA, V.flatC, D.flat], flat_nil⟩) ⟨rfl, rfl, rfl⟩
  · refine aw_seq ?_
    refine aw_seq ?_
    refine aw_region ?_
    refine awl_val hτ rfl rfl rfl ?_
    refine awl_val hτ rfl rfl rfl ?_
    refine awl_nil ?_
    refine aw_block ?_
    refine aw_loop (ι := Nat × Int × List Int × Int) (fun (m27, v20, v21, v22) => St.of [(0, .d (.int .i64 v20)), (5, .row 0 v21.length 0 v21.length), (7, .d (.int .i64 many_)), (8, .d (.int .i64 v22))] [.row 1 (v21.map eIntu8)] f113.ntmps 0) (fun (m27, v20, v21, v22) => m_impl_bytesOf_l2 n many_ m27 v20 v21 v22 = some r) (fun x => x.1) (n, n_, ([] : List Int), (0 : Int)) h (weak_ofP [0] (l := [(0, .d (.int .i64 n_)), (5, .row 0 (([] : List Int).length) 0 (([] : List Int).length)), (7, .d (.int .i64 many_)), (8, .d (.int .i64 (0 : Int)))]) (objs := [.row 1 (([] : List Int).map eIntu8)]) rfl (by simp) rfl (by repeat' first | exact trivial | refine ⟨?_, ?_⟩) ⟨rfl, trivial, rfl, trivial, rfl, trivial, rfl, trivial, trivial⟩) ?_
    rintro ⟨m27, v20, v21, v22⟩ h
    replace h : m_impl_bytesOf_l2 n many_ m27 v20 v21 v22 = some r := h
    rcases m27 with _ | m27
    · rw [m_impl_bytesOf_l2] at h; cases h
    rw [m_impl_bytesOf_l2] at h
    refine aw_seq ?_
    refine aw_region ?_
    refine awl_val hτ rfl rfl rfl ?_
    refine awl_nil ?_
    refine aw_seq ?_
    refine aw_cond rfl (fun hc29 => ?_) (fun hc29 => ?_)
    · have h := if_t h hc29
      refine aw_skip ?_
      refine aw_seq ?_
      refine aw_block ?_
      refine aw_seq ?_
      refine aw_region ?_
      refine awl_val hτ rfl rfl rfl ?_
      refine awl_val hτ rfl rfl rfl ?_
      refine awl_val hτ rfl rfl rfl ?_
      refine awl_valH hτ rfl rfl rfl ?_
      refine grd_elim h fun hg30 h => ?_
      refine awl_needH hτ rfl rfl (Eq.trans rfl (or_append (f := eIntu8) v21 [(IntKind.wrap .u8 (v20))] rfl)) ⟨⟨rfl, Nat.le_of_ble_eq_true rfl⟩, len_map _, rfl, rfl, hg30, by decide, (all1 rfl)⟩ ?_
      refine awl_val hτ rfl rfl rfl ?_
      refine awl_nil ?_
      refine aw_weak (weak_ofP [0] (l := [(0, .d (.int .i64 v20)), (5, .row 0 ((v21 ++ [(IntKind.wrap .u8 (v20))]).length) 0 ((v21 ++ [(IntKind.wrap .u8 (v20))]).length)), (7, .d (.int .i64 many_)), (8, .d (.int .i64 v22))]) (objs := [.row 1 ((v21 ++ [(IntKind.wrap .u8 (v20))]).map eIntu8)]) rfl (by simp) rfl (by repeat' first | exact trivial | refine ⟨?_, ?_⟩) ⟨rfl, trivial, rfl, trivial, rfl, trivial, rfl, trivial, trivial⟩) ?_
      refine aw_region ?_
      refine awl_val hτ rfl rfl rfl ?_
      refine awl_need hτ rfl rfl rfl (by decide) ?_
      refine awl_val hτ rfl rfl rfl ?_
      refine awl_nil ?_
      refine aw_region ?_
      refine awl_val hτ rfl rfl rfl ?_
      refine awl_val hτ rfl rfl rfl ?_
      refine awl_nil ?_
      exact ⟨(m27, (v20.fdiv (2 ^ min (8 : Int).toNat (IntKind.bits .i64))), (v21 ++ [(IntKind.wrap .u8 (v20))]), (w64 (v22 + (1 : Int)))), h, Nat.lt_succ_self m27, (weak_ofP [0] (l := [(0, .d (.int .i64 (v20.fdiv (2 ^ min (8 : Int).toNat (IntKind.bits .i64))))), (5, .row 0 ((v21 ++ [(IntKind.wrap .u8 (v20))]).length) 0 ((v21 ++ [(IntKind.wrap .u8 (v20))]).length)), (7, .d (.int .i64 many_)), (8, .d (.int .i64 (w64 (v22 + (1 : Int)))))]) (objs := [.row 1 ((v21 ++ [(IntKind.wrap .u8 (v20))]).map eIntu8)]) rfl (by simp) rfl (by repeat' first | exact trivial | refine ⟨?_, ?_⟩) ⟨rfl, trivial, rfl, trivial, rfl, trivial, rfl, trivial, trivial⟩)⟩
    · have h := if_f h hc29
      refine aw_exit ?_
      refine aw_weak (weak_ofP [0] (l := [(5, .row 0 v21.length 0 v21.length)]) (objs := [.row 1 (v21.map eIntu8)]) rfl (by simp) rfl (by repeat' first | exact trivial | refine ⟨?_, ?_⟩) ⟨rfl, trivial, trivial⟩) ?_
      exact hk18 v21 h
theorem impl_bytesOf_ok (n : Nat) (n_ : Int) (many_ : Int) {r : Str} (h : m_impl_bytesOf n n_ many_ = some r) : ACall prog false 113 [.d (.int .i64 n_), .d (.int .i64 many_)] [] (fun v o new => v = .d (.str (bstr r)) ∧ o = [] ∧ new = []) := impl_bytesOf_ok_fr0 false n n_ many_ h
theorem impl_bytesOf_ok_fr (n : Nat) (n_ : Int) (many_ : Int) {r : Str} (h : m_impl_bytesOf n n_ many_ = some r) : ACall prog true 113 [.d (.int .i64 n_), .d (.int .i64 many_)] [] (fun v o new => v = .d (.str (bstr r)) ∧ o = [] ∧ new = []) := impl_bytesOf_ok_fr0 true n n_ many_ h

def m_impl_isNaN (n : Nat) (x_ : Nat) : Option Bool :=
  some (fcmp .neq .f32 x_ x_)
theorem impl_isNaN_ok_fr0 (fr : Bool) (n : Nat) (x_ : Nat) {r : Bool} (h : m_impl_isNaN n x_ = some r) : ACall prog fr 122 [.d (.fl .f32 x_)] [] (fun v o new => v = .d (.bool r) ∧ o = [] ∧ new = []) := by
  refine acall_of_aw hτ func122 rfl (by simp) (by simp) ?_
  unfold m_impl_isNaN at h
  refine aw_seq ?_
  refine aw_region ?_
  refine awl_val hτ rfl rfl rfl ?_
  refine awl_nil ?_
  refine aw_seq ?_
  refine aw_region ?_
  refine awl_val hτ rfl rfl rfl ?_
  refine awl_val hτ rfl rfl rfl ?_
  refine awl_val hτ rfl rfl rfl ?_
  refine awl_val hτ rfl rfl rfl ?_
  refine awl_nil ?_
  refine aw_weak (weak_ofP [] (l := [(2, .d (.bool (fcmp .neq .f32 x_ x_)))]) (objs := []) rfl (by simp) rfl (by repeat' first | exact trivial | refine ⟨?_, ?_⟩) ⟨rfl, trivial, trivial⟩) ?_
  refine aw_ret ?_
  have hr := Option.some.inj h
  subst hr
  exact ret_objs (.inr rfl) [] (objs' := []) (new := []) rfl (by simp) (by simp) rfl (by repeat' first | exact trivial | refine ⟨?_, ?_⟩) rfl rfl (by repeat' first | exact trivial | refine ⟨?_, ?_⟩) (fun _ => ⟨by simp [V.flat, V.flatA, V.flatC, D.flat], flat_nil⟩) ⟨rfl, rfl, rfl⟩
theorem impl_isNaN_ok (n : Nat) (x_ : Nat) {r : Bool} (h : m_impl_isNaN n x_ = some r) : ACall prog false 122 [.d (.fl .f32 x_)] [] (fun v o new => v = .d (.bool r) ∧ o = [] ∧ new = []) := impl_isNaN_ok_fr0 false n x_ h
theorem impl_isNaN_ok_fr (n : Nat) (x_ : Nat) {r : Bool} (h : m_impl_isNaN n x_ = some r) : ACall prog true 122 [.d (.fl .f32 x_)] [] (fun v o new => v = .d (.bool r) ∧ o = [] ∧ new = []) := impl_isNaN_ok_fr0 true n x_ h

def m_impl_BitsOf (n : Nat) (x_ : Nat) : Option Int :=
  (m_impl_isNaN n x_).bind fun x4 =>
  if x4 = true then
    some (2143289344 : Int)
  else
    grd (isnan .f32 x_ = false) <|
    some (w64 ((x_ : Int)))
theorem impl_BitsOf_ok_fr0 (fr : Bool) (n : Nat) (x_ : Nat) {r : Int} (h : m_impl_BitsOf n x_ = some r) : ACall prog fr 144 [.d (.fl .f32 x_)] [] (fun v o new => v = .d (.int .i64 r) ∧ o = [] ∧ new = []) := by
  refine acall_of_aw hτ func144 rfl (by simp) (by simp) ?_
  unfold m_impl_BitsOf at h
  refine aw_seq ?_
  refine aw_region ?_
  refine awl_val hτ rfl rfl rfl ?_
  refine awl_nil ?_
  refine aw_seq ?_
  refine aw_seq ?_
  refine aw_region ?_
  refine awl_val hτ rfl rfl rfl ?_
  refine bnd_elim h fun x4 hx4 h => ?_
  refine awl_callP hτ false [] rfl rfl rfl (enterOk func122 rfl rfl) rfl rfl (by simp) ⟨trivial, trivial⟩ (by repeat' first | exact trivial | refine ⟨?_, ?_⟩) (impl_isNaN_ok n x_ hx4) ?_
  rintro r0 o0 n0 ⟨rfl, rfl, rfl⟩ -
  refine awl_nil ?_
  refine aw_cond rfl (fun hc5 => ?_) (fun hc5 => ?_)
  · have h := if_bt h hc5
    refine aw_seq ?_
    refine aw_region ?_
    refine awl_val hτ rfl rfl rfl ?_
    refine awl_nil ?_
    refine aw_weak (weak_ofP [] (l := [(2, .d (.int .i64 (2143289344 : Int)))]) (objs := []) rfl (by simp) rfl (by repeat' first | exact trivial | refine ⟨?_, ?_⟩) ⟨rfl, trivial, trivial⟩) ?_
    refine aw_ret ?_
    have hr := Option.some.inj h
    subst hr
    exact ret_objs (.inr rfl) [] (objs' := []) (new := []) rfl (by simp) (by simp) rfl (by repeat' first | exact trivial | refine ⟨?_, ?_⟩) rfl rfl (by repeat' first | exact trivial | refine ⟨?_, ?_⟩) (fun _ => ⟨by simp [V.flat, V.flatA, V.flatC, D.flat], flat_nil⟩) ⟨rfl, rfl, rfl⟩
  · have h := if_bf h hc5
    refine aw_skip ?_
    refine aw_seq ?_
    refine aw_region ?_
    refine awl_val hτ rfl rfl rfl ?_
    refine grd_elim h fun hg6 h => ?_
    refine awl_ext hτ rfl rfl rfl (ext123 hg6) ?_
    refine awl_val hτ rfl rfl rfl ?_
    refine awl_val hτ rfl rfl rfl ?_
    refine awl_nil ?_
    refine aw_weak (weak_ofP [] (l := [(2, .d (.int .i64 (w64 ((x_ : Int)))))]) (objs := []) rfl (by simp) rfl (by repeat' first | exact trivial | refine ⟨?_, ?_⟩) ⟨rfl, trivial, trivial⟩) ?_
    refine aw_ret ?_
    have hr := Option.some.inj h
    subst hr
    exact ret_objs (.inr rfl) [] (objs' := []) (new := []) rfl (by simp) (by simp) rfl (by repeat' first | exact trivial | refine ⟨?_, ?_⟩) rfl rfl (by repeat' first | exact trivial | refine ⟨?_, ?_⟩) (fun _ => ⟨by simp [V.flat, V.flatA, V.flatC, D.flat], flat_nil⟩) ⟨rfl, rfl, rfl⟩
theorem impl_BitsOf_ok (n : Nat) (x_ : Nat) {r : Int} (h : m_impl_BitsOf n x_ = some r) : ACall prog false 144 [.d (.fl .f32 x_)] [] (fun v o new => v = .d (.int .i64 r) ∧ o = [] ∧ new = []) := impl_BitsOf_ok_fr0 false n x_ h
theorem impl_BitsOf_ok_fr (n : Nat) (x_ : Nat) {r : Int} (h : m_impl_BitsOf n x_ = some r) : ACall prog true 144 [.d (.fl .f32 x_)] [] (fun v o new => v = .d (.int .i64 r) ∧ o = [] ∧ new = []) := impl_BitsOf_ok_fr0 true n x_ h

def m_impl_pairOf (n : Nat) (x_ : Cx) : Option Str :=
  (m_impl_BitsOf n x_.re).bind fun x6 =>
  (m_impl_bytesOf n x6 (4 : Int)).bind fun x7 =>
  (m_impl_BitsOf n x_.im).bind fun x8 =>
  (m_impl_bytesOf n x8 (4 : Int)).bind fun x9 =>
  grd (x7.length + x9.length ≤ 9223372036854775807) <|
  some (x7 ++ x9)
theorem impl_pairOf_ok_fr0 (fr : Bool) (n : Nat) (x_ : Cx) {r : Str} (h : m_impl_pairOf n x_ = some r) : ACall prog fr 135 [.d (.cx .f32 x_.re x_.im)] [] (fun v o new => v = .d (.str (bstr r)) ∧ o = [] ∧ new = []) := by
  refine acall_of_aw hτ func135 rfl (by simp) (by simp) ?_
  unfold m_impl_pairOf at h
  refine aw_seq ?_
  refine aw_region ?_
  refine awl_val hτ rfl rfl rfl ?_
  refine awl_nil ?_
  refine aw_seq ?_
  refine aw_region ?_
  refine awl_val hτ rfl rfl rfl ?_
  refine awl_val hτ rfl rfl rfl ?_
  refine bnd_elim h fun x6 hx6 h => ?_
  refine awl_callP hτ false [] rfl rfl rfl (enterOk func144 rfl rfl) rfl rfl (by simp) ⟨trivial, trivial⟩ (by repeat' first | exact trivial | refine ⟨?_, ?_⟩) (impl_BitsOf_ok n x_.re hx6) ?_
  rintro r0 o0 n0 ⟨rfl, rfl, rfl⟩ -
  refine bnd_elim h fun x7 hx7 h => ?_
  refine awl_callP hτ false [] rfl rfl rfl (enterOk func113 rfl rfl) rfl rfl (by simp) ⟨trivial, trivial, trivial⟩ (by repeat' first | exact trivial | refine ⟨?_, ?_⟩) (impl_bytesOf_ok n x6 (4 : Int) hx7) ?_
  rintro r0 o0 n0 ⟨rfl, rfl, rfl⟩ -
  refine awl_val hτ rfl rfl rfl ?_
  refine awl_val hτ rfl rfl rfl ?_
  refine bnd_elim h fun x8 hx8 h => ?_
  refine awl_callP hτ false [] rfl rfl rfl (enterOk func144 rfl rfl) rfl rfl (by simp) ⟨trivial, trivial⟩ (by repeat' first | exact trivial | refine ⟨?_, ?_⟩) (impl_BitsOf_ok n x_.im hx8) ?_
  rintro r0 o0 n0 ⟨rfl, rfl, rfl⟩ -
  refine bnd_elim h fun x9 hx9 h => ?_
  refine awl_callP hτ false [] rfl rfl rfl (enterOk func113 rfl rfl) rfl rfl (by simp) ⟨trivial, trivial, trivial⟩ (by repeat' first | exact trivial | refine ⟨?_, ?_⟩) (impl_bytesOf_ok n x8 (4 : Int) hx9) ?_
  rintro r0 o0 n0 ⟨rfl, rfl, rfl⟩ -
  refine grd_elim h fun hg10 h => ?_
  refine awl_need hτ (v := .d (.str (bstr (x7 ++ x9)))) rfl rfl (Eq.trans rfl (or_cat _ _)) hg10 ?_
  refine awl_val hτ rfl rfl rfl ?_
  refine awl_nil ?_
  refine aw_weak (weak_ofP [] (l := [(2, .d (.str (bstr (x7 ++ x9))))]) (objs := []) rfl (by simp) rfl (by repeat' first | exact trivial | refine ⟨?_, ?_⟩) ⟨rfl, trivial, trivial⟩) ?_
  refine aw_ret ?_
  have hr := Option.some.inj h
  subst hr
  exact ret_objs (.inr rfl) [] (objs' := []) (new := []) rfl (by simp) (by simp) rfl (by repeat' first | exact trivial | refine ⟨?_, ?_⟩) rfl rfl (by repeat' first | exact trivial | refine ⟨?_, ?_⟩) (fun _ => ⟨by simp [V.flat, V.flatA, V.flatC, D.flat], flat_nil⟩) ⟨rfl, rfl, rfl⟩
theorem impl_pairOf_ok (n : Nat) (x_ : Cx) {r : Str} (h : m_impl_pairOf n x_ = some r) : ACall prog false 135 [.d (.cx .f32 x_.re x_.im)] [] (fun v o new => v = .d (.str (bstr r)) ∧ o = [] ∧ new = []) := impl_pairOf_ok_fr0 false n x_ h
theorem impl_pairOf_ok_fr (n : Nat) (x_ : Cx) {r : Str} (h : m_impl_pairOf n x_ = some r) : ACall prog true 135 [.d (.cx .f32 x_.re x_.im)] [] (fun v o new => v = .d (.str (bstr r)) ∧ o = [] ∧ new = []) := impl_pairOf_ok_fr0 true n x_ h

def m_impl_phasesOf (n : Nat) (p_ : SPhases) : Option Str :=
  (m_impl_pairOf n p_.A).bind fun x6 =>
  (m_impl_pairOf n p_.B).bind fun x7 =>
  grd (x6.length + x7.length ≤ 9223372036854775807) <|
  (m_impl_pairOf n p_.C).bind fun x9 =>
  grd ((x6 ++ x7).length + x9.length ≤ 9223372036854775807) <|
  some ((x6 ++ x7) ++ x9)
theorem impl_phasesOf_ok_fr0 (fr : Bool) (n : Nat) (p_ : SPhases) {r : Str} (h : m_impl_phasesOf n p_ = some r) : ACall prog fr 114 [.agg [.d (.cx .f32 p_.A.re p_.A.im), .d (.cx .f32 p_.B.re p_.B.im), .d (.cx .f32 p_.C.re p_.C.im)]] [] (fun v o new => v = .d (.str (bstr r)) ∧ o = [] ∧ new = []) := by
  refine acall_of_aw hτ func114 rfl (by simp) (by simp) ?_
  unfold m_impl_phasesOf at h
  refine aw_seq ?_
  refine aw_region ?_
  refine awl_valH hτ rfl rfl rfl ?_
  refine awl_val hτ rfl rfl rfl ?_
  refine awl_nil ?_
  refine aw_seq ?_
  refine any_start ?_
  refine any_val hτ [0] 0 rfl rfl rfl rfl rfl ?_
  refine any_val hτ [0] 1 rfl rfl rfl rfl rfl ?_
  refine any_val hτ [0] 3 rfl rfl rfl rfl rfl ?_
  refine any_val hτ [0] 4 rfl rfl rfl rfl rfl ?_
  refine any_val hτ [0] 7 rfl rfl rfl rfl rfl ?_
  refine any_val hτ [0] 8 rfl rfl rfl rfl rfl ?_
  refine bnd_elim h fun x6 hx6 h => ?_
  refine any_callP hτ false [] [0] 2 rfl rfl rfl rfl (enterOk func135 rfl rfl) rfl rfl (by simp) ⟨trivial, trivial⟩ (by repeat' first | exact trivial | refine ⟨?_, ?_⟩) (impl_pairOf_ok n p_.A hx6) ⟨rfl, trivial⟩ ?_
  refine bnd_elim h fun x7 hx7 h => ?_
  refine any_callP hτ false [] [0] 5 rfl rfl rfl rfl (enterOk func135 rfl rfl) rfl rfl (by simp) ⟨trivial, trivial⟩ (by repeat' first | exact trivial | refine ⟨?_, ?_⟩) (impl_pairOf_ok n p_.B hx7) ⟨rfl, trivial⟩ ?_
  refine grd_elim h fun hg8 h => ?_
  refine any_need hτ (v := .d (.str (bstr (x6 ++ x7)))) [] 6 rfl rfl rfl rfl (Eq.trans rfl (or_cat _ _)) hg8 ?_
  refine bnd_elim h fun x9 hx9 h => ?_
  refine any_callP hτ false [] [0] 9 rfl rfl rfl rfl (enterOk func135 rfl rfl) rfl rfl (by simp) ⟨trivial, trivial⟩ (by repeat' first | exact trivial | refine ⟨?_, ?_⟩) (impl_pairOf_ok n p_.C hx9) ⟨rfl, trivial⟩ ?_
  refine grd_elim h fun hg10 h => ?_
  refine any_need hτ (v := .d (.str (bstr ((x6 ++ x7) ++ x9)))) [] 10 rfl rfl rfl rfl (Eq.trans rfl (or_cat _ _)) hg10 ?_
  refine any_val hτ [] 11 rfl rfl rfl rfl rfl ?_
  refine any_done mixed (by kernel_rfl) ?_
  refine aw_weak (weak_ofP [] (l := [(2, .d (.str (bstr ((x6 ++ x7) ++ x9))))]) (objs := []) rfl (by simp) rfl (by repeat' first | exact trivial | refine ⟨?_, ?_⟩) ⟨rfl, trivial, trivial⟩) ?_
  refine aw_ret ?_
  have hr := Option.some.inj h
  subst hr
  exact ret_objs (.inr rfl) [] (objs' := []) (new := []) rfl (by simp) (by simp) rfl (by repeat' first | exact trivial | refine ⟨?_, ?_⟩) rfl rfl (by repeat' first | exact trivial | refine ⟨?_, ?_⟩) (fun _ => ⟨by simp [V.flat, V.flatA, V.flatC, D.flat], flat_nil⟩) ⟨rfl, rfl, rfl⟩
theorem impl_phasesOf_ok (n : Nat) (p_ : SPhases) {r : Str} (h : m_impl_phasesOf n p_ = some r) : ACall prog false 114 [.agg [.d (.cx .f32 p_.A.re p_.A.im), .d (.cx .f32 p_.B.re p_.B.im), .d (.cx .f32 p_.C.re p_.C.im)]] [] (fun v o new => v = .d (.str (bstr r)) ∧ o = [] ∧ new = []) := impl_phasesOf_ok_fr0 false n p_ h
theorem impl_phasesOf_ok_fr (n : Nat) (p_ : SPhases) {r : Str} (h : m_impl_phasesOf n p_ = some r) : ACall prog true 114 [.agg [.d (.cx .f32 p_.A.re p_.A.im), .d (.cx .f32 p_.B.re p_.B.im), .d (.cx .f32 p_.C.re p_.C.im)]] [] (fun v o new => v = .d (.str (bstr r)) ∧ o = [] ∧ new = []) := impl_phasesOf_ok_fr0 true n p_ h

def m_impl_FlowBytes (n : Nat) (flow_ : SFlow) : Option (Str × Bool) := flowM (m_impl_bytesOf n) (m_impl_phasesOf n) flow_.Voltages flow_.Currents flow_.Rounds flow_.Rests
theorem m_impl_FlowBytes_in (n : Nat) (k lo hi : Int) : m_impl_in n k lo hi = some (decide (lo ≤ k ∧ k ≤ hi)) := by
  unfold m_impl_in
  by_cases h : k ≥ lo
  · rw [if_pos h]; congr 1; simp only [decide_eq_decide]; exact ⟨fun g => ⟨h, g⟩, fun g => g.2⟩
  · rw [if_neg h]; congr 1; exact (decide_eq_false fun g => h g.1).symm
theorem impl_FlowBytes_ok (n : Nat) (flow_ : SFlow) {r : Str × Bool} (h : m_impl_FlowBytes n flow_ = some r) : ACall prog false 84 [.agg [.d (.sl false (flow_.Voltages.map eSPhases)), .d (.sl false (flow_.Currents.map eSPhases)), .d (.int .i64 flow_.Rounds), .d (.bool flow_.Rests)]] [] (fun v o new => v = .tup [.d (.str (bstr r.1)), .d (.bool r.2)] ∧ o = [] ∧ new = []) := flow_does (fun _ => rfl) (fun k lo hi => impl_in_ok n k lo hi (m_impl_FlowBytes_in n k lo hi)) (fun a b r h => impl_bytesOf_ok n a b h) (fun a r h => impl_phasesOf_ok n a h) h
theorem impl_FlowBytes_ok_fr (n : Nat) (flow_ : SFlow) {r : Str × Bool} (h : m_impl_FlowBytes n flow_ = some r) : ACall prog true 84 [.agg [.d (.sl false (flow_.Voltages.map eSPhases)), .d (.sl false (flow_.Currents.map eSPhases)), .d (.int .i64 flow_.Rounds), .d (.bool flow_.Rests)]] [] (fun v o new => v = .tup [.d (.str (bstr r.1)), .d (.bool r.2)] ∧ o = [] ∧ new = []) := flow_does (fun _ => rfl) (fun k lo hi => impl_in_ok n k lo hi (m_impl_FlowBytes_in n k lo hi)) (fun a b r h => impl_bytesOf_ok n a b h) (fun a r h => impl_phasesOf_ok n a h) h

def m_impl_FlowOfBytes_j3 (n : Nat) (x37 : Int × SReader) (x38 : Int × SReader) (v66 : List SPhases) (v67 : List SPhases) : Option (SFlow × Bool) :=
  some ((SFlow.mk v66 v67 x37.1 (decide (x38.1 = (1 : Int)))), true)
def m_impl_FlowOfBytes_j4 (n : Nat) (x37 : Int × SReader) (x38 : Int × SReader) (v66 : List SPhases) (v67 : List SPhases) (v75 : Bool) : Option (SFlow × Bool) :=
  if v75 = true then
    some ((SFlow.mk ([] : List SPhases) ([] : List SPhases) (0 : Int) false), false)
  else
    m_impl_FlowOfBytes_j3 n x37 x38 v66 v67
def m_impl_FlowOfBytes_j2 (n : Nat) (s_ : Str) (x37 : Int × SReader) (x38 : Int × SReader) (v64 : List SPhases) (v65 : List SPhases) (v66 : List SPhases) (v67 : List SPhases) : Option (SFlow × Bool) :=
  (m_impl_FlowBytes n (SFlow.mk v66 v67 x37.1 (decide (x38.1 = (1 : Int))))).bind fun x72 =>
  if x72.2 = true then
    m_impl_FlowOfBytes_j4 n x37 x38 v66 v67 (!(decide (x72.1 = s_)))
  else
    m_impl_FlowOfBytes_j4 n x37 x38 v66 v67 true
def m_impl_FlowOfBytes_l5 (n : Nat) (s_ : Str) (buses_ : Int) (x37 : Int × SReader) (x38 : Int × SReader) : Nat → List SPhases → List SPhases → Str → Int → Bool → List SPhases → List SPhases → Int → Option (SFlow × Bool)
  | 0, _, _, _, _, _, _, _, _ => none
  | m105 + 1, v85, v86, v87, v88, v89, v90, v91, v92 =>
    if v92 < buses_ then
      (m_impl_reader_phases n (SReader.mk v87 v88 v89)).bind fun x108 =>
      grd (room (v90.length + 1) 24) <|
      (m_impl_reader_phases n x108.2).bind fun x110 =>
      grd (room (v91.length + 1) 24) <|
      (m_impl_FlowOfBytes_l5 n s_ buses_ x37 x38 m105) v85 v86 x110.2.s x110.2.at_ x110.2.short (v90 ++ [x108.1]) (v91 ++ [x110.1]) (w64 (v92 + (1 : Int)))
    else
      m_impl_FlowOfBytes_j2 n s_ x37 x38 v85 v86 v90 v91
def m_impl_FlowOfBytes_j1 (n : Nat) (s_ : Str) (buses_ : Int) : Option (SFlow × Bool) :=
  (m_impl_reader_number n (SReader.mk s_ (0 : Int) false) (1 : Int)).bind fun x37 =>
  (m_impl_reader_number n x37.2 (1 : Int)).bind fun x38 =>
  m_impl_FlowOfBytes_l5 n s_ buses_ x37 x38 n ([] : List SPhases) ([] : List SPhases) x38.2.s x38.2.at_ x38.2.short ([] : List SPhases) ([] : List SPhases) (0 : Int)
def m_impl_FlowOfBytes_j6 (n : Nat) (s_ : Str) (buses_ : Int) (v116 : Bool) : Option (SFlow × Bool) :=
  if v116 = true then
    some ((SFlow.mk ([] : List SPhases) ([] : List SPhases) (0 : Int) false), false)
  else
    m_impl_FlowOfBytes_j1 n s_ buses_
def m_impl_FlowOfBytes (n : Nat) (s_ : Str) (buses_ : Int) : Option (SFlow × Bool) :=
  (m_impl_in n buses_ (1 : Int) (16 : Int)).bind fun x119 =>
  if x119 = true then
    m_impl_FlowOfBytes_j6 n s_ buses_ (!(decide ((s_.length : Int) = (w64 ((2 : Int) + (w64 ((48 : Int) * buses_)))))))
  else
    m_impl_FlowOfBytes_j6 n s_ buses_ true
theorem impl_FlowOfBytes_ok_fr0 (fr : Bool) (n : Nat) (s_ : Str) (buses_ : Int) {r : SFlow × Bool} (h : m_impl_FlowOfBytes n s_ buses_ = some r) : ACall prog fr 40 [.d (.str (bstr s_)), .d (.int .i64 buses_)] [] (fun v o new => v = .tup [.agg [.row 0 r.1.Voltages.length 0 r.1.Voltages.length, .row 1 r.1.Currents.length 0 r.1.Currents.length, .d (.int .i64 r.1.Rounds), .d (.bool r.1.Rests)], .d (.bool r.2)] ∧ o = [] ∧ new = [.row 3 (r.1.Voltages.map eSPhases), .row 3 (r.1.Currents.map eSPhases)]) := by
  refine acall_of_aw hτ func40 rfl (by simp) (by simp) ?_
  unfold m_impl_FlowOfBytes at h
  refine aw_seq ?_
  refine aw_region ?_
  refine awl_valH hτ rfl rfl rfl ?_
  refine awl_val hτ rfl rfl rfl ?_
  refine awl_nil ?_
  refine aw_hk1 (ι := Unit) (fun _ => St.of [(0, .d (.str (bstr s_))), (1, .d (.int .i64 buses_)), (4, .ptr 0 0)] [.box [.d (.nils), .d (.nils), .d (.int .i64 (0 : Int)), .d (.bool false)]] f40.ntmps 0) (fun _ => m_impl_FlowOfBytes_j1 n s_ buses_ = some r) ?_ (fun hk112 => ?_)
  · rintro ⟨⟩ h
    replace h : m_impl_FlowOfBytes_j1 n s_ buses_ = some r := h
    unfold m_impl_FlowOfBytes_j1 at h
    refine aw_seq ?_
    refine aw_region ?_
    refine awl_val hτ rfl rfl rfl ?_
    refine awl_val hτ rfl rfl rfl ?_
    refine awl_valH hτ rfl rfl rfl ?_
    refine awl_valH hτ rfl rfl rfl ?_
    refine awl_nil ?_
    refine aw_seq ?_
    refine aw_region ?_
    refine bnd_elim h fun x37 hx37 h => ?_
    refine awl_callP hτ false [1] rfl rfl rfl (enterOk func82 rfl rfl) rfl rfl (by simp) ⟨trivial, trivial, trivial⟩ (by repeat' first | exact trivial | refine ⟨?_, ?_⟩) (impl_reader_number_ok n (SReader.mk s_ (0 : Int) false) (1 : Int) hx37) ?_
    rintro r0 o0 n0 ⟨rfl, rfl, rfl⟩ -
    refine awl_val hτ rfl rfl rfl ?_
    refine awl_valH hτ rfl rfl rfl ?_
    refine awl_valH hτ rfl rfl rfl ?_
    refine awl_nil ?_
    refine aw_seq ?_
    refine aw_weak (weak_ofP [0, 1, 2] (l := [(0, .d (.str (bstr s_))), (1, .d (.int .i64 buses_)), (4, .ptr 0 0), (6, .ptr 1 0), (7, .ptr 2 0)]) (objs := [.box [.d (.nils), .d (.nils), .d (.int .i64 (0 : Int)), .d (.bool false)], .box [.d (.str (bstr x37.2.s)), .d (.int .i64 x37.2.at_), .d (.bool x37.2.short)], .box [.d (.nils), .d (.nils), .d (.int .i64 x37.1), .d (.bool false)]]) rfl (by simp) rfl (by repeat' first | exact trivial | refine ⟨?_, ?_⟩) ⟨rfl, trivial, rfl, trivial, rfl, trivial, rfl, trivial, rfl, trivial, trivial⟩) ?_
    refine aw_region ?_
    refine bnd_elim h fun x38 hx38 h => ?_
    refine awl_callP hτ false [1] rfl rfl rfl (enterOk func82 rfl rfl) rfl rfl (by simp) ⟨trivial, trivial, trivial⟩ (by repeat' first | exact trivial | refine ⟨?_, ?_⟩) (impl_reader_number_ok n x37.2 (1 : Int) hx38) ?_
    rintro r0 o0 n0 ⟨rfl, rfl, rfl⟩ -
    refine awl_val hτ (v := .d (.bool (decide (x38.1 = (1 : Int))))) rfl rfl (or_ieq _ _) ?_
    refine awl_val hτ rfl rfl rfl ?_
    refine awl_valH hτ rfl rfl rfl ?_
    refine awl_nil ?_
    refine aw_hk1 (ι := List SPhases × List SPhases × List SPhases × List SPhases) (fun (v64, v65, v66, v67) => St.of [(0, .d (.str (bstr s_))), (4, .ptr 0 0), (7, .ptr 3 0)] [.box [.row 1 v64.length 0 v64.length, .row 2 v65.length 0 v65.length, .d (.int .i64 (0 : Int)), .d (.bool false)], .row 3 (v64.map eSPhases), .row 3 (v65.map eSPhases), .box [.row 4 v66.length 0 v66.length, .row 5 v67.length 0 v67.length, .d (.int .i64 x37.1), .d (.bool (decide (x38.1 = (1 : Int))))], .row 3 (v66.map eSPhases), .row 3 (v67.map eSPhases)] f40.ntmps 0) (fun (v64, v65, v66, v67) => m_impl_FlowOfBytes_j2 n s_ x37 x38 v64 v65 v66 v67 = some r) ?_ (fun hk79 => ?_)
    · rintro ⟨v64, v65, v66, v67⟩ h
      replace h : m_impl_FlowOfBytes_j2 n s_ x37 x38 v64 v65 v66 v67 = some r := h
      unfold m_impl_FlowOfBytes_j2 at h
      refine aw_hk1 (ι := Unit) (fun _ => St.of [(4, .ptr 0 0), (7, .ptr 3 0)] [.box [.row 1 v64.length 0 v64.length, .row 2 v65.length 0 v65.length, .d (.int .i64 (0 : Int)), .d (.bool false)], .row 3 (v64.map eSPhases), .row 3 (v65.map eSPhases), .box [.row 4 v66.length 0 v66.length, .row 5 v67.length 0 v67.length, .d (.int .i64 x37.1), .d (.bool (decide (x38.1 = (1 : Int))))], .row 3 (v66.map eSPhases), .row 3 (v67.map eSPhases)] f40.ntmps 0) (fun _ => m_impl_FlowOfBytes_j3 n x37 x38 v66 v67 = some r) ?_ (fun hk71 => ?_)
      · rintro ⟨⟩ h
        replace h : m_impl_FlowOfBytes_j3 n x37 x38 v66 v67 = some r := h
        unfold m_impl_FlowOfBytes_j3 at h
        refine aw_seq ?_
        refine aw_region ?_
        refine awl_val hτ rfl rfl rfl ?_
        refine awl_valH hτ rfl rfl rfl ?_
        refine awl_val hτ rfl rfl rfl ?_
        refine awl_nil ?_
        refine aw_weak (weak_ofP [0, 4, 5] (l := [(4, .ptr 0 0), (5, .d (.bool true))]) (objs := [.box [.row 1 v66.length 0 v66.length, .row 2 v67.length 0 v67.length, .d (.int .i64 x37.1), .d (.bool (decide (x38.1 = (1 : Int))))], .row 3 (v66.map eSPhases), .row 3 (v67.map eSPhases)]) rfl (by simp) rfl (by repeat' first | exact trivial | refine ⟨?_, ?_⟩) ⟨rfl, trivial, rfl, trivial, trivial⟩) ?_
        refine aw_ret ?_
        have hr := Option.some.inj h
        subst hr
        exact ret_objs (.inr rfl) [1, 2] (objs' := []) (new := [.row 3 (v66.map eSPhases), .row 3 (v67.map eSPhases)]) rfl (by simp) (by simp) rfl (by repeat' first | exact trivial | refine ⟨?_, ?_⟩) rfl rfl (by repeat' first | exact trivial | refine ⟨?_, ?_⟩) (fun _ => ⟨by simp [V.flat, V.flatA, V.flatC, D.flat], (flat_cons (flat_row eSPhases_flat _) (flat_cons (flat_row eSPhases_flat _) flat_nil))⟩) ⟨rfl, rfl, rfl⟩
      · refine aw_seq ?_
        refine aw_seq ?_
        refine aw_region ?_
        refine awl_val hτ rfl rfl rfl ?_
        refine awl_weak (weak_ofP [0, 1, 2, 3, 4, 5] (l := [(0, .d (.str (bstr s_))), (4, .ptr 0 0), (7, .ptr 3 0), (46, .agg [.row 4 v66.length 0 v66.length, .row 5 v67.length 0 v67.length, .d (.int .i64 x37.1), .d (.bool (decide (x38.1 = (1 : Int))))])]) (objs := [.box [.row 1 v64.length 0 v64.length, .row 2 v65.length 0 v65.length, .d (.int .i64 (0 : Int)), .d (.bool false)], .row 3 (v64.map eSPhases), .row 3 (v65.map eSPhases), .box [.row 4 v66.length 0 v66.length, .row 5 v67.length 0 v67.length, .d (.int .i64 x37.1), .d (.bool (decide (x38.1 = (1 : Int))))], .row 3 (v66.map eSPhases), .row 3 (v67.map eSPhases)]) rfl (by simp) rfl (by repeat' first | exact trivial | refine ⟨?_, ?_⟩) ⟨rfl, trivial, rfl, trivial, rfl, trivial, rfl, (by repeat' first | exact trivial | refine ⟨?_, ?_⟩), trivial⟩) ?_
        refine bnd_elim h fun x72 hx72 h => ?_
        refine awl_callP hτ true [] rfl rfl rfl (enterOk func84 rfl rfl) (mapO_cons (exV_agg (mapO_cons (exC_view (f := eSPhases) v66 rfl rfl rfl) (mapO_cons (exC_view (f := eSPhases) v67 rfl rfl rfl) (mapO_cons rfl (mapO_cons rfl mapO_nil))))) mapO_nil) rfl (by simp) ⟨⟨(exP_view (f := eSPhases) v66 rfl rfl rfl), (exP_view (f := eSPhases) v67 rfl rfl rfl), trivial, trivial⟩, trivial⟩ (by repeat' first | exact trivial | refine ⟨?_, ?_⟩) (impl_FlowBytes_ok_fr n (SFlow.mk v66 v67 x37.1 (decide (x38.1 = (1 : Int)))) hx72) ?_
        rintro r0 o0 n0 ⟨rfl, rfl, rfl⟩ -
        refine awl_val hτ rfl rfl rfl ?_
        refine awl_val hτ rfl rfl rfl ?_
        refine awl_val hτ rfl rfl rfl ?_
        refine awl_val hτ rfl rfl rfl ?_
        refine awl_val hτ rfl rfl rfl ?_
        refine awl_nil ?_
        refine aw_hk1 (ι := Bool) (fun v75 => St.of [(4, .ptr 0 0), (7, .ptr 3 0), (56, .d (.bool v75))] [.box [.row 1 v64.length 0 v64.length, .row 2 v65.length 0 v65.length, .d (.int .i64 (0 : Int)), .d (.bool false)], .row 3 (v64.map eSPhases), .row 3 (v65.map eSPhases), .box [.row 4 v66.length 0 v66.length, .row 5 v67.length 0 v67.length, .d (.int .i64 x37.1), .d (.bool (decide (x38.1 = (1 : Int))))], .row 3 (v66.map eSPhases), .row 3 (v67.map eSPhases)] f40.ntmps 0) (fun v75 => m_impl_FlowOfBytes_j4 n x37 x38 v66 v67 v75 = some r) ?_ (fun hk77 => ?_)
        · rintro v75 h
          replace h : m_impl_FlowOfBytes_j4 n x37 x38 v66 v67 v75 = some r := h
          unfold m_impl_FlowOfBytes_j4 at h
          refine aw_cond rfl (fun hc76 => ?_) (fun hc76 => ?_)
          · have h := if_bt h hc76
            refine aw_seq ?_
            refine aw_region ?_
            refine awl_val hτ rfl rfl rfl ?_
            refine awl_valH hτ rfl rfl rfl ?_
            refine awl_val hτ rfl rfl rfl ?_
            refine awl_nil ?_
            refine aw_weak (weak_ofP [0] (l := [(4, .ptr 0 0), (5, .d (.bool false))]) (objs := [.box [.d (.nils), .d (.nils), .d (.int .i64 (0 : Int)), .d (.bool false)]]) rfl (by simp) rfl (by repeat' first | exact trivial | refine ⟨?_, ?_⟩) ⟨rfl, trivial, rfl, trivial, trivial⟩) ?_
            refine aw_weak (weak_relax [3, 3] (l' := [(4, .ptr 0 0), (5, .d (.bool false))]) (objs' := [.box [.row 1 (([] : List SPhases).length) 0 (([] : List SPhases).length), .row 2 (([] : List SPhases).length) 0 (([] : List SPhases).length), .d (.int .i64 (0 : Int)), .d (.bool false)]]) (.cons (.c (.refl _)) (.cons (.c (.refl _)) .nil)) (.cons (.box (.cons (.ghost ⟨Nat.le_of_ble_eq_true rfl, Nat.le_of_ble_eq_true rfl⟩) (.cons (.ghost ⟨Nat.le_of_ble_eq_true rfl, Nat.le_of_ble_eq_true rfl⟩) (.cons (.refl _) (.cons (.refl _) .nil))))) .nil)) ?_
            refine aw_ret ?_
            have hr := Option.some.inj h
            subst hr
            exact ret_objs (.inr rfl) [1, 2] (objs' := []) (new := [.row 3 (([] : List SPhases).map eSPhases), .row 3 (([] : List SPhases).map eSPhases)]) rfl (by simp) (by simp) rfl (by repeat' first | exact trivial | refine ⟨?_, ?_⟩) rfl rfl (by repeat' first | exact trivial | refine ⟨?_, ?_⟩) (fun _ => ⟨by simp [V.flat, V.flatA, V.flatC, D.flat], (flat_cons (flat_row eSPhases_flat _) (flat_cons (flat_row eSPhases_flat _) flat_nil))⟩) ⟨rfl, rfl, rfl⟩
          · have h := if_bf h hc76
            refine aw_skip ?_
            refine aw_weak (weak_ofP [0, 1, 2, 3, 4, 5] (l := [(4, .ptr 0 0), (7, .ptr 3 0)]) (objs := [.box [.row 1 v64.length 0 v64.length, .row 2 v65.length 0 v65.length, .d (.int .i64 (0 : Int)), .d (.bool false)], .row 3 (v64.map eSPhases), .row 3 (v65.map eSPhases), .box [.row 4 v66.length 0 v66.length, .row 5 v67.length 0 v67.length, .d (.int .i64 x37.1), .d (.bool (decide (x38.1 = (1 : Int))))], .row 3 (v66.map eSPhases), .row 3 (v67.map eSPhases)]) rfl (by simp) rfl (by repeat' first | exact trivial | refine ⟨?_, ?_⟩) ⟨rfl, trivial, rfl, trivial, trivial⟩) ?_
            exact hk71 () h
        · refine aw_seq ?_
          refine aw_weak (weak_ofP [0, 1, 2, 3, 4, 5] (l := [(0, .d (.str (bstr s_))), (4, .ptr 0 0), (7, .ptr 3 0), (8, .d (.str (bstr x72.1))), (9, .d (.bool x72.2))]) (objs := [.box [.row 1 v64.length 0 v64.length, .row 2 v65.length 0 v65.length, .d (.int .i64 (0 : Int)), .d (.bool false)], .row 3 (v64.map eSPhases), .row 3 (v65.map eSPhases), .box [.row 4 v66.length 0 v66.length, .row 5 v67.length 0 v67.length, .d (.int .i64 x37.1), .d (.bool (decide (x38.1 = (1 : Int))))], .row 3 (v66.map eSPhases), .row 3 (v67.map eSPhases)]) rfl (by simp) rfl (by repeat' first | exact trivial | refine ⟨?_, ?_⟩) ⟨rfl, trivial, rfl, trivial, rfl, trivial, rfl, trivial, rfl, trivial, trivial⟩) ?_
          refine aw_region ?_
          refine awl_val hτ rfl rfl rfl ?_
          refine awl_val hτ rfl rfl rfl ?_
          refine awl_val hτ rfl rfl rfl ?_
          refine awl_split 52 rfl (fun hb78 => ?_) (fun hb78 => ?_)
          · have hb78 := not_t hb78
            have h := if_bf h hb78
            refine awl_skip rfl rfl ?_
            refine awl_skip rfl rfl ?_
            refine awl_skip rfl rfl ?_
            refine awl_val hτ rfl rfl rfl ?_
            refine awl_nil ?_
            refine aw_weak (weak_ofP [0, 1, 2, 3, 4, 5] (l := [(4, .ptr 0 0), (7, .ptr 3 0), (56, .d (.bool true))]) (objs := [.box [.row 1 v64.length 0 v64.length, .row 2 v65.length 0 v65.length, .d (.int .i64 (0 : Int)), .d (.bool false)], .row 3 (v64.map eSPhases), .row 3 (v65.map eSPhases), .box [.row 4 v66.length 0 v66.length, .row 5 v67.length 0 v67.length, .d (.int .i64 x37.1), .d (.bool (decide (x38.1 = (1 : Int))))], .row 3 (v66.map eSPhases), .row 3 (v67.map eSPhases)]) rfl (by simp) rfl (by repeat' first | exact trivial | refine ⟨?_, ?_⟩) ⟨rfl, trivial, rfl, trivial, rfl, trivial, trivial⟩) ?_
            exact hk77 true h
          · have hb78 := not_f hb78
            have h := if_bt h hb78
            refine awl_val hτ rfl rfl rfl ?_
            refine awl_val hτ rfl rfl rfl ?_
            refine awl_val hτ (v := .d (.bool (!(decide (x72.1 = s_))))) rfl rfl (or_sne _ _) ?_
            refine awl_val hτ rfl rfl rfl ?_
            refine awl_nil ?_
            refine aw_weak (weak_ofP [0, 1, 2, 3, 4, 5] (l := [(4, .ptr 0 0), (7, .ptr 3 0), (56, .d (.bool (!(decide (x72.1 = s_)))))]) (objs := [.box [.row 1 v64.length 0 v64.length, .row 2 v65.length 0 v65.length, .d (.int .i64 (0 : Int)), .d (.bool false)], .row 3 (v64.map eSPhases), .row 3 (v65.map eSPhases), .box [.row 4 v66.length 0 v66.length, .row 5 v67.length 0 v67.length, .d (.int .i64 x37.1), .d (.bool (decide (x38.1 = (1 : Int))))], .row 3 (v66.map eSPhases), .row 3 (v67.map eSPhases)]) rfl (by simp) rfl (by repeat' first | exact trivial | refine ⟨?_, ?_⟩) ⟨rfl, trivial, rfl, trivial, rfl, trivial, trivial⟩) ?_
            exact hk77 (!(decide (x72.1 = s_))) h
    · refine aw_seq ?_
      refine aw_seq ?_
      refine aw_region ?_
      refine awl_val hτ rfl rfl rfl ?_
      refine awl_val hτ rfl rfl rfl ?_
      refine awl_nil ?_
      refine aw_block ?_
      refine aw_loop (ι := Nat × List SPhases × List SPhases × Str × Int × Bool × List SPhases × List SPhases × Int) (fun (m105, v85, v86, v87, v88, v89, v90, v91, v92) => St.of [(0, .d (.str (bstr s_))), (4, .ptr 0 0), (6, .ptr 3 0), (7, .ptr 4 0), (29, .d (.int .i64 buses_)), (30, .d (.int .i64 v92))] [.box [.row 1 v85.length 0 v85.length, .row 2 v86.length 0 v86.length, .d (.int .i64 (0 : Int)), .d (.bool false)], .row 3 (v85.map eSPhases), .row 3 (v86.map eSPhases), .box [.d (.str (bstr v87)), .d (.int .i64 v88), .d (.bool v89)], .box [.row 5 v90.length 0 v90.length, .row 6 v91.length 0 v91.length, .d (.int .i64 x37.1), .d (.bool (decide (x38.1 = (1 : Int))))], .row 3 (v90.map eSPhases), .row 3 (v91.map eSPhases)] f40.ntmps 0) (fun (m105, v85, v86, v87, v88, v89, v90, v91, v92) => m_impl_FlowOfBytes_l5 n s_ buses_ x37 x38 m105 v85 v86 v87 v88 v89 v90 v91 v92 = some r) (fun x => x.1) (n, ([] : List SPhases), ([] : List SPhases), x38.2.s, x38.2.at_, x38.2.short, ([] : List SPhases), ([] : List SPhases), (0 : Int)) h (Weak.trans (Weak.trans (weak_ofP [0, 1, 2] (l := [(0, .d (.str (bstr s_))), (4, .ptr 0 0), (6, .ptr 1 0), (7, .ptr 2 0), (29, .d (.int .i64 buses_)), (30, .d (.int .i64 (0 : Int)))]) (objs := [.box [.d (.nils), .d (.nils), .d (.int .i64 (0 : Int)), .d (.bool false)], .box [.d (.str (bstr x38.2.s)), .d (.int .i64 x38.2.at_), .d (.bool x38.2.short)], .box [.d (.nils), .d (.nils), .d (.int .i64 x37.1), .d (.bool (decide (x38.1 = (1 : Int))))]]) rfl (by simp) rfl (by repeat' first | exact trivial | refine ⟨?_, ?_⟩) ⟨rfl, trivial, rfl, trivial, rfl, trivial, rfl, trivial, rfl, trivial, rfl, trivial, trivial⟩) (weak_relax [3, 3, 3, 3] (l' := [(0, .d (.str (bstr s_))), (4, .ptr 0 0), (6, .ptr 1 0), (7, .ptr 2 0), (29, .d (.int .i64 buses_)), (30, .d (.int .i64 (0 : Int)))]) (objs' := [.box [.row 3 (([] : List SPhases).length) 0 (([] : List SPhases).length), .row 4 (([] : List SPhases).length) 0 (([] : List SPhases).length), .d (.int .i64 (0 : Int)), .d (.bool false)], .box [.d (.str (bstr x38.2.s)), .d (.int .i64 x38.2.at_), .d (.bool x38.2.short)], .box [.row 5 (([] : List SPhases).length) 0 (([] : List SPhases).length), .row 6 (([] : List SPhases).length) 0 (([] : List SPhases).length), .d (.int .i64 x37.1), .d (.bool (decide (x38.1 = (1 : Int))))]]) (.cons (.c (.refl _)) (.cons (.c (.refl _)) (.cons (.c (.refl _)) (.cons (.c (.refl _)) (.cons (.c (.refl _)) (.cons (.c (.refl _)) .nil)))))) (.cons (.box (.cons (.ghost ⟨Nat.le_of_ble_eq_true rfl, Nat.le_of_ble_eq_true rfl⟩) (.cons (.ghost ⟨Nat.le_of_ble_eq_true rfl, Nat.le_of_ble_eq_true rfl⟩) (.cons (.refl _) (.cons (.refl _) .nil))))) (.cons (.refl _) (.cons (.box (.cons (.ghost ⟨Nat.le_of_ble_eq_true rfl, Nat.le_of_ble_eq_true rfl⟩) (.cons (.ghost ⟨Nat.le_of_ble_eq_true rfl, Nat.le_of_ble_eq_true rfl⟩) (.cons (.refl _) (.cons (.refl _) .nil))))) .nil))))) (weak_ofP [0, 3, 4, 1, 2, 5, 6] (l := [(0, .d (.str (bstr s_))), (4, .ptr 0 0), (6, .ptr 3 0), (7, .ptr 4 0), (29, .d (.int .i64 buses_)), (30, .d (.int .i64 (0 : Int)))]) (objs := [.box [.row 1 (([] : List SPhases).length) 0 (([] : List SPhases).length), .row 2 (([] : List SPhases).length) 0 (([] : List SPhases).length), .d (.int .i64 (0 : Int)), .d (.bool false)], .row 3 (([] : List SPhases).map eSPhases), .row 3 (([] : List SPhases).map eSPhases), .box [.d (.str (bstr x38.2.s)), .d (.int .i64 x38.2.at_), .d (.bool x38.2.short)], .box [.row 5 (([] : List SPhases).length) 0 (([] : List SPhases).length), .row 6 (([] : List SPhases).length) 0 (([] : List SPhases).length), .d (.int .i64 x37.1), .d (.bool (decide (x38.1 = (1 : Int))))], .row 3 (([] : List SPhases).map eSPhases), .row 3 (([] : List SPhases).map eSPhases)]) rfl (by simp) rfl (by repeat' first | exact trivial | refine ⟨?_, ?_⟩) ⟨rfl, trivial, rfl, trivial, rfl, trivial, rfl, trivial, rfl, trivial, rfl, trivial, trivial⟩)) ?_
      rintro ⟨m105, v85, v86, v87, v88, v89, v90, v91, v92⟩ h
      replace h : m_impl_FlowOfBytes_l5 n s_ buses_ x37 x38 m105 v85 v86 v87 v88 v89 v90 v91 v92 = some r := h
      rcases m105 with _ | m105
      · rw [m_impl_FlowOfBytes_l5] at h; cases h
      rw [m_impl_FlowOfBytes_l5] at h
      refine aw_seq ?_
      refine aw_region ?_
      refine awl_val hτ rfl rfl rfl ?_
      refine awl_nil ?_
      refine aw_seq ?_
      refine aw_cond rfl (fun hc107 => ?_) (fun hc107 => ?_)
      · have h := if_t h hc107
        refine aw_skip ?_
        refine aw_seq ?_
        refine aw_block ?_
        refine aw_seq ?_
        refine any_start ?_
        refine any_val hτ [4] 0 rfl rfl rfl rfl rfl ?_
        refine any_val hτ [4] 1 rfl rfl rfl rfl rfl ?_
        refine bnd_elim h fun x108 hx108 h => ?_
        refine any_callP hτ false [3] [0, 1, 2, 4, 5, 6] 2 rfl rfl rfl rfl (enterOk func83 rfl rfl) rfl rfl (by simp) ⟨trivial, trivial⟩ (by repeat' first | exact trivial | refine ⟨?_, ?_⟩) (impl_reader_phases_ok n (SReader.mk v87 v88 v89) hx108) ⟨rfl, rfl, rfl, rfl, rfl, rfl, trivial⟩ ?_
        refine any_valHP hτ [0, 1, 2, 3, 4, 5, 6] 3 rfl rfl rfl rfl ⟨rfl, rfl, rfl, rfl, rfl, rfl, rfl, trivial⟩ ?_
        refine grd_elim h fun hg109 h => ?_
        refine any_needHP hτ [0, 1, 2, 3, 4, 6, 7] 4 rfl rfl rfl (Eq.trans rfl (or_append (f := eSPhases) v90 [x108.1] rfl)) ⟨⟨rfl, Nat.le_of_ble_eq_true rfl⟩, len_map _, rfl, rfl, hg109, by decide, (all1 rfl)⟩ ⟨rfl, rfl, rfl, rfl, rfl, rfl, rfl, trivial⟩ ?_
        refine any_val hτ [4] 5 rfl rfl rfl rfl rfl ?_
        refine any_valHP hτ [0, 1, 2, 3, 5, 6, 7] 6 rfl rfl rfl rfl ⟨rfl, rfl, rfl, rfl, rfl, rfl, rfl, trivial⟩ ?_
        refine any_done mixed (by kernel_rfl) ?_
        refine aw_weak (weak_ofP [0, 1, 2, 3, 4, 5, 6] (l := [(0, .d (.str (bstr s_))), (4, .ptr 0 0), (6, .ptr 3 0), (7, .ptr 4 0), (29, .d (.int .i64 buses_)), (30, .d (.int .i64 v92))]) (objs := [.box [.row 1 v85.length 0 v85.length, .row 2 v86.length 0 v86.length, .d (.int .i64 (0 : Int)), .d (.bool false)], .row 3 (v85.map eSPhases), .row 3 (v86.map eSPhases), .box [.d (.str (bstr x108.2.s)), .d (.int .i64 x108.2.at_), .d (.bool x108.2.short)], .box [.row 5 ((v90 ++ [x108.1]).length) 0 ((v90 ++ [x108.1]).length), .row 6 v91.length 0 v91.length, .d (.int .i64 x37.1), .d (.bool (decide (x38.1 = (1 : Int))))], .row 3 ((v90 ++ [x108.1]).map eSPhases), .row 3 (v91.map eSPhases)]) rfl (by simp) rfl (by repeat' first | exact trivial | refine ⟨?_, ?_⟩) ⟨rfl, trivial, rfl, trivial, rfl, trivial, rfl, trivial, rfl, trivial, rfl, trivial, trivial⟩) ?_
        refine any_start ?_
        refine any_val hτ [4] 0 rfl rfl rfl rfl rfl ?_
        refine any_val hτ [4] 1 rfl rfl rfl rfl rfl ?_
        refine bnd_elim h fun x110 hx110 h => ?_
        refine any_callP hτ false [3] [0, 1, 2, 4, 5, 6] 2 rfl rfl rfl rfl (enterOk func83 rfl rfl) rfl rfl (by simp) ⟨trivial, trivial⟩ (by repeat' first | exact trivial | refine ⟨?_, ?_⟩) (impl_reader_phases_ok n x108.2 hx110) ⟨rfl, rfl, rfl, rfl, rfl, rfl, trivial⟩ ?_
        refine any_valHP hτ [0, 1, 2, 3, 4, 5, 6] 3 rfl rfl rfl rfl ⟨rfl, rfl, rfl, rfl, rfl, rfl, rfl, trivial⟩ ?_
        refine grd_elim h fun hg111 h => ?_
        refine any_needHP hτ [0, 1, 2, 3, 4, 5, 7] 4 rfl rfl rfl (Eq.trans rfl (or_append (f := eSPhases) v91 [x110.1] rfl)) ⟨⟨rfl, Nat.le_of_ble_eq_true rfl⟩, len_map _, rfl, rfl, hg111, by decide, (all1 rfl)⟩ ⟨rfl, rfl, rfl, rfl, rfl, rfl, rfl, trivial⟩ ?_
        refine any_val hτ [4] 5 rfl rfl rfl rfl rfl ?_
        refine any_valHP hτ [0, 1, 2, 3, 5, 6, 7] 6 rfl rfl rfl rfl ⟨rfl, rfl, rfl, rfl, rfl, rfl, rfl, trivial⟩ ?_
        refine any_done mixed (by kernel_rfl) ?_
        refine aw_weak (weak_ofP [0, 1, 2, 3, 4, 5, 6] (l := [(0, .d (.str (bstr s_))), (4, .ptr 0 0), (6, .ptr 3 0), (7, .ptr 4 0), (29, .d (.int .i64 buses_)), (30, .d (.int .i64 v92))]) (objs := [.box [.row 1 v85.length 0 v85.length, .row 2 v86.length 0 v86.length, .d (.int .i64 (0 : Int)), .d (.bool false)], .row 3 (v85.map eSPhases), .row 3 (v86.map eSPhases), .box [.d (.str (bstr x110.2.s)), .d (.int .i64 x110.2.at_), .d (.bool x110.2.short)], .box [.row 5 ((v90 ++ [x108.1]).length) 0 ((v90 ++ [x108.1]).length), .row 6 ((v91 ++ [x110.1]).length) 0 ((v91 ++ [x110.1]).length), .d (.int .i64 x37.1), .d (.bool (decide (x38.1 = (1 : Int))))], .row 3 ((v90 ++ [x108.1]).map eSPhases), .row 3 ((v91 ++ [x110.1]).map eSPhases)]) rfl (by simp) rfl (by repeat' first | exact trivial | refine ⟨?_, ?_⟩) ⟨rfl, trivial, rfl, trivial, rfl, trivial, rfl, trivial, rfl, trivial, rfl, trivial, trivial⟩) ?_
        refine aw_region ?_
        refine awl_val hτ rfl rfl rfl ?_
        refine awl_val hτ rfl rfl rfl ?_
        refine awl_nil ?_
        exact ⟨(m105, v85, v86, x110.2.s, x110.2.at_, x110.2.short, (v90 ++ [x108.1]), (v91 ++ [x110.1]), (w64 (v92 + (1 : Int)))), h, Nat.lt_succ_self m105, (weak_ofP [0, 1, 2, 3, 4, 5, 6] (l := [(0, .d (.str (bstr s_))), (4, .ptr 0 0), (6, .ptr 3 0), (7, .ptr 4 0), (29, .d (.int .i64 buses_)), (30, .d (.int .i64 (w64 (v92 + (1 : Int)))))]) (objs := [.box [.row 1 v85.length 0 v85.length, .row 2 v86.length 0 v86.length, .d (.int .i64 (0 : Int)), .d (.bool false)], .row 3 (v85.map eSPhases), .row 3 (v86.map eSPhases), .box [.d (.str (bstr x110.2.s)), .d (.int .i64 x110.2.at_), .d (.bool x110.2.short)], .box [.row 5 ((v90 ++ [x108.1]).length) 0 ((v90 ++ [x108.1]).length), .row 6 ((v91 ++ [x110.1]).length) 0 ((v91 ++ [x110.1]).length), .d (.int .i64 x37.1), .d (.bool (decide (x38.1 = (1 : Int))))], .row 3 ((v90 ++ [x108.1]).map eSPhases), .row 3 ((v91 ++ [x110.1]).map eSPhases)]) rfl (by simp) rfl (by repeat' first | exact trivial | refine ⟨?_, ?_⟩) ⟨rfl, trivial, rfl, trivial, rfl, trivial, rfl, trivial, rfl, trivial, rfl, trivial, trivial⟩)⟩
      · have h := if_f h hc107
        refine aw_exit ?_
        refine aw_weak (weak_ofP [0, 1, 2, 4, 5, 6] (l := [(0, .d (.str (bstr s_))), (4, .ptr 0 0), (7, .ptr 3 0)]) (objs := [.box [.row 1 v85.length 0 v85.length, .row 2 v86.length 0 v86.length, .d (.int .i64 (0 : Int)), .d (.bool false)], .row 3 (v85.map eSPhases), .row 3 (v86.map eSPhases), .box [.row 4 v90.length 0 v90.length, .row 5 v91.length 0 v91.length, .d (.int .i64 x37.1), .d (.bool (decide (x38.1 = (1 : Int))))], .row 3 (v90.map eSPhases), .row 3 (v91.map eSPhases)]) rfl (by simp) rfl (by repeat' first | exact trivial | refine ⟨?_, ?_⟩) ⟨rfl, trivial, rfl, trivial, rfl, trivial, trivial⟩) ?_
        exact hk79 (v85, v86, v90, v91) h
  · refine aw_seq ?_
    refine aw_hk1 (ι := Bool) (fun v116 => St.of [(0, .d (.str (bstr s_))), (1, .d (.int .i64 buses_)), (4, .ptr 0 0), (20, .d (.bool v116))] [.box [.d (.nils), .d (.nils), .d (.int .i64 (0 : Int)), .d (.bool false)]] f40.ntmps 0) (fun v116 => m_impl_FlowOfBytes_j6 n s_ buses_ v116 = some r) ?_ (fun hk118 => ?_)
    · rintro v116 h
      replace h : m_impl_FlowOfBytes_j6 n s_ buses_ v116 = some r := h
      unfold m_impl_FlowOfBytes_j6 at h
      refine aw_cond rfl (fun hc117 => ?_) (fun hc117 => ?_)
      · have h := if_bt h hc117
        refine aw_seq ?_
        refine aw_region ?_
        refine awl_val hτ rfl rfl rfl ?_
        refine awl_valH hτ rfl rfl rfl ?_
        refine awl_val hτ rfl rfl rfl ?_
        refine awl_nil ?_
        refine aw_weak (weak_ofP [0] (l := [(4, .ptr 0 0), (5, .d (.bool false))]) (objs := [.box [.d (.nils), .d (.nils), .d (.int .i64 (0 : Int)), .d (.bool false)]]) rfl (by simp) rfl (by repeat' first | exact trivial | refine ⟨?_, ?_⟩) ⟨rfl, trivial, rfl, trivial, trivial⟩) ?_
        refine aw_weak (weak_relax [3, 3] (l' := [(4, .ptr 0 0), (5, .d (.bool false))]) (objs' := [.box [.row 1 (([] : List SPhases).length) 0 (([] : List SPhases).length), .row 2 (([] : List SPhases).length) 0 (([] : List SPhases).length), .d (.int .i64 (0 : Int)), .d (.bool false)]]) (.cons (.c (.refl _)) (.cons (.c (.refl _)) .nil)) (.cons (.box (.cons (.ghost ⟨Nat.le_of_ble_eq_true rfl, Nat.le_of_ble_eq_true rfl⟩) (.cons (.ghost ⟨Nat.le_of_ble_eq_true rfl, Nat.le_of_ble_eq_true rfl⟩) (.cons (.refl _) (.cons (.refl _) .nil))))) .nil)) ?_
        refine aw_ret ?_
        have hr := Option.some.inj h
        subst hr
        exact ret_objs (.inr rfl) [1, 2] (objs' := []) (new := [.row 3 (([] : List SPhases).map eSPhases), .row 3 (([] : List SPhases).map eSPhases)]) rfl (by simp) (by simp) rfl (by repeat' first | exact trivial | refine ⟨?_, ?_⟩) rfl rfl (by repeat' first | exact trivial | refine ⟨?_, ?_⟩) (fun _ => ⟨by simp [V.flat, V.flatA, V.flatC, D.flat], (flat_cons (flat_row eSPhases_flat _) (flat_cons (flat_row eSPhases_flat _) flat_nil))⟩) ⟨rfl, rfl, rfl⟩
      · have h := if_bf h hc117
        refine aw_skip ?_
        refine aw_weak (weak_ofP [0] (l := [(0, .d (.str (bstr s_))), (1, .d (.int .i64 buses_)), (4, .ptr 0 0)]) (objs := [.box [.d (.nils), .d (.nils), .d (.int .i64 (0 : Int)), .d (.bool false)]]) rfl (by simp) rfl (by repeat' first | exact trivial | refine ⟨?_, ?_⟩) ⟨rfl, trivial, rfl, trivial, rfl, trivial, trivial⟩) ?_
        exact hk112 () h
    · refine aw_seq ?_
      refine aw_region ?_
      refine awl_val hτ rfl rfl rfl ?_
      refine bnd_elim h fun x119 hx119 h => ?_
      refine awl_callP hτ false [] rfl rfl rfl (enterOk func60 rfl rfl) rfl rfl (by simp) ⟨trivial, trivial, trivial, trivial⟩ (by repeat' first | exact trivial | refine ⟨?_, ?_⟩) (impl_in_ok n buses_ (1 : Int) (16 : Int) hx119) ?_
      rintro r0 o0 n0 ⟨rfl, rfl, rfl⟩ -
      refine awl_val hτ rfl rfl rfl ?_
      refine awl_val hτ rfl rfl rfl ?_
      refine awl_split 13 rfl (fun hb120 => ?_) (fun hb120 => ?_)
      · have hb120 := not_t hb120
        have h := if_bf h hb120
        refine awl_skip rfl rfl ?_
        refine awl_skip rfl rfl ?_
        refine awl_skip rfl rfl ?_
        refine awl_skip rfl rfl ?_
        refine awl_skip rfl rfl ?_
        refine awl_skip rfl rfl ?_
        refine awl_weak (weak_ofP [0] (l := [(0, .d (.str (bstr s_))), (1, .d (.int .i64 buses_)), (4, .ptr 0 0), (13, .d (.bool true)), (19, .und)]) (objs := [.box [.d (.nils), .d (.nils), .d (.int .i64 (0 : Int)), .d (.bool false)]]) rfl (by simp) rfl (by repeat' first | exact trivial | refine ⟨?_, ?_⟩) ⟨rfl, trivial, rfl, trivial, rfl, trivial, rfl, trivial, rfl, trivial, trivial⟩) ?_
        refine awl_val hτ rfl rfl rfl ?_
        refine awl_nil ?_
        refine aw_weak (weak_ofP [0] (l := [(0, .d (.str (bstr s_))), (1, .d (.int .i64 buses_)), (4, .ptr 0 0), (20, .d (.bool true))]) (objs := [.box [.d (.nils), .d (.nils), .d (.int .i64 (0 : Int)), .d (.bool false)]]) rfl (by simp) rfl (by repeat' first | exact trivial | refine ⟨?_, ?_⟩) ⟨rfl, trivial, rfl, trivial, rfl, trivial, rfl, trivial, trivial⟩) ?_
        exact hk118 true h
      · have hb120 := not_f hb120
        have h := if_bt h hb120
        refine awl_val hτ rfl rfl rfl ?_
        refine awl_val hτ rfl rfl rfl ?_
        refine awl_val hτ rfl rfl rfl ?_
        refine awl_val hτ rfl rfl rfl ?_
        refine awl_val hτ rfl rfl rfl ?_
        refine awl_val hτ (v := .d (.bool (!(decide ((s_.length : Int) = (w64 ((2 : Int) + (w64 ((48 : Int) * buses_))))))))) rfl rfl (or_ine _ _) ?_
        refine awl_weak (weak_ofP [0] (l := [(0, .d (.str (bstr s_))), (1, .d (.int .i64 buses_)), (4, .ptr 0 0), (13, .d (.bool false)), (19, .d (.bool (!(decide ((s_.length : Int) = (w64 ((2 : Int) + (w64 ((48 : Int) * buses_)))))))))]) (objs := [.box [.d (.nils), .d (.nils), .d (.int .i64 (0 : Int)), .d (.bool false)]]) rfl (by simp) rfl (by repeat' first | exact trivial | refine ⟨?_, ?_⟩) ⟨rfl, trivial, rfl, trivial, rfl, trivial, rfl, trivial, rfl, trivial, trivial⟩) ?_
        refine awl_val hτ rfl rfl rfl ?_
        refine awl_nil ?_
        refine aw_weak (weak_ofP [0] (l := [(0, .d (.str (bstr s_))), (1, .d (.int .i64 buses_)), (4, .ptr 0 0), (20, .d (.bool (!(decide ((s_.length : Int) = (w64 ((2 : Int) + (w64 ((48 : Int) * buses_)))))))))]) (objs := [.box [.d (.nils), .d (.nils), .d (.int .i64 (0 : Int)), .d (.bool false)]]) rfl (by simp) rfl (by repeat' first | exact trivial | refine ⟨?_, ?_⟩) ⟨rfl, trivial, rfl, trivial, rfl, trivial, rfl, trivial, trivial⟩) ?_
        exact hk118 (!(decide ((s_.length : Int) = (w64 ((2 : Int) + (w64 ((48 : Int) * buses_))))))) h
theorem impl_FlowOfBytes_ok (n : Nat) (s_ : Str) (buses_ : Int) {r : SFlow × Bool} (h : m_impl_FlowOfBytes n s_ buses_ = some r) : ACall prog false 40 [.d (.str (bstr s_)), .d (.int .i64 buses_)] [] (fun v o new => v = .tup [.agg [.row 0 r.1.Voltages.length 0 r.1.Voltages.length, .row 1 r.1.Currents.length 0 r.1.Currents.length, .d (.int .i64 r.1.Rounds), .d (.bool r.1.Rests)], .d (.bool r.2)] ∧ o = [] ∧ new = [.row 3 (r.1.Voltages.map eSPhases), .row 3 (r.1.Currents.map eSPhases)]) := impl_FlowOfBytes_ok_fr0 false n s_ buses_ h
theorem impl_FlowOfBytes_ok_fr (n : Nat) (s_ : Str) (buses_ : Int) {r : SFlow × Bool} (h : m_impl_FlowOfBytes n s_ buses_ = some r) : ACall prog true 40 [.d (.str (bstr s_)), .d (.int .i64 buses_)] [] (fun v o new => v = .tup [.agg [.row 0 r.1.Voltages.length 0 r.1.Voltages.length, .row 1 r.1.Currents.length 0 r.1.Currents.length, .d (.int .i64 r.1.Rounds), .d (.bool r.1.Rests)], .d (.bool r.2)] ∧ o = [] ∧ new = [.row 3 (r.1.Voltages.map eSPhases), .row 3 (r.1.Currents.map eSPhases)]) := impl_FlowOfBytes_ok_fr0 true n s_ buses_ h

def m_laws_sameFloat_j2 (n : Nat) (a_ : Nat) (b_ : Nat) : Option Bool :=
  some (fcmp .eql .f64 a_ b_)
def m_laws_sameFloat_j3 (n : Nat) (a_ : Nat) (b_ : Nat) (v16 : Bool) : Option Bool :=
  if v16 = true then
    some ((fcmp .gtr .f64 (farith .quo .f64 (4607182418800017408 : Nat) a_) (0 : Nat)) == (fcmp .gtr .f64 (farith .quo .f64 (4607182418800017408 : Nat) b_) (0 : Nat)))
  else
    m_laws_sameFloat_j2 n a_ b_
def m_laws_sameFloat_j1 (n : Nat) (a_ : Nat) (b_ : Nat) : Option Bool :=
  if (fcmp .eql .f64 a_ (0 : Nat)) = true then
    m_laws_sameFloat_j3 n a_ b_ (fcmp .eql .f64 b_ (0 : Nat))
  else
    m_laws_sameFloat_j3 n a_ b_ false
def m_laws_sameFloat_j4 (n : Nat) (a_ : Nat) (b_ : Nat) (v23 : Bool) : Option Bool :=
  if v23 = true then
    if (fcmp .neq .f64 a_ a_) = true then
      some (fcmp .neq .f64 b_ b_)
    else
      some false
  else
    m_laws_sameFloat_j1 n a_ b_
def m_laws_sameFloat (n : Nat) (a_ : Nat) (b_ : Nat) : Option Bool :=
  if (fcmp .neq .f64 a_ a_) = true then
    m_laws_sameFloat_j4 n a_ b_ true
  else
    m_laws_sameFloat_j4 n a_ b_ (fcmp .neq .f64 b_ b_)
theorem laws_sameFloat_ok_fr0 (fr : Bool) (n : Nat) (a_ : Nat) (b_ : Nat) {r : Bool} (h : m_laws_sameFloat n a_ b_ = some r) : ACall prog fr 145 [.d (.fl .f64 a_), .d (.fl .f64 b_)] [] (fun v o new => v = .d (.bool r) ∧ o = [] ∧ new = []) := by
  refine acall_of_aw hτ func145 rfl (by simp) (by simp) ?_
  unfold m_laws_sameFloat at h
  refine aw_seq ?_
  refine aw_region ?_
  refine awl_val hτ rfl rfl rfl ?_
  refine awl_nil ?_
  refine aw_hk1 (ι := Unit) (fun _ => St.of [(0, .d (.fl .f64 a_)), (1, .d (.fl .f64 b_))] [] f145.ntmps 0) (fun _ => m_laws_sameFloat_j1 n a_ b_ = some r) ?_ (fun hk20 => ?_)
  · rintro ⟨⟩ h
    replace h : m_laws_sameFloat_j1 n a_ b_ = some r := h
    unfold m_laws_sameFloat_j1 at h
    refine aw_hk1 (ι := Unit) (fun _ => St.of [(0, .d (.fl .f64 a_)), (1, .d (.fl .f64 b_))] [] f145.ntmps 0) (fun _ => m_laws_sameFloat_j2 n a_ b_ = some r) ?_ (fun hk13 => ?_)
    · rintro ⟨⟩ h
      replace h : m_laws_sameFloat_j2 n a_ b_ = some r := h
      unfold m_laws_sameFloat_j2 at h
      refine aw_seq ?_
      refine aw_region ?_
      refine awl_val hτ rfl rfl rfl ?_
      refine awl_val hτ rfl rfl rfl ?_
      refine awl_val hτ rfl rfl rfl ?_
      refine awl_val hτ rfl rfl rfl ?_
      refine awl_nil ?_
      refine aw_weak (weak_ofP [] (l := [(4, .d (.bool (fcmp .eql .f64 a_ b_)))]) (objs := []) rfl (by simp) rfl (by repeat' first | exact trivial | refine ⟨?_, ?_⟩) ⟨rfl, trivial, trivial⟩) ?_
      refine aw_ret ?_
      have hr := Option.some.inj h
      subst hr
      exact ret_objs (.inr rfl) [] (objs' := []) (new := []) rfl (by simp) (by simp) rfl (by repeat' first | exact trivial | refine ⟨?_, ?_⟩) rfl rfl (by repeat' first | exact trivial | refine ⟨?_, ?_⟩) (fun _ => ⟨by simp [V.flat, V.flatA, V.flatC, D.flat], flat_nil⟩) ⟨rfl, rfl, rfl⟩
    · refine aw_seq ?_
      refine aw_hk1 (ι := Bool) (fun v16 => St.of [(0, .d (.fl .f64 a_)), (1, .d (.fl .f64 b_)), (26, .d (.bool v16))] [] f145.ntmps 0) (fun v16 => m_laws_sameFloat_j3 n a_ b_ v16 = some r) ?_ (fun hk18 => ?_)
      · rintro v16 h
        replace h : m_laws_sameFloat_j3 n a_ b_ v16 = some r := h
        unfold m_laws_sameFloat_j3 at h
        refine aw_cond rfl (fun hc17 => ?_) (fun hc17 => ?_)
        · have h := if_bt h hc17
          refine aw_seq ?_
          refine aw_region ?_
          refine awl_val hτ rfl rfl rfl ?_
          refine awl_val hτ rfl rfl rfl ?_
          refine awl_val hτ rfl rfl rfl ?_
          refine awl_val hτ rfl rfl rfl ?_
          refine awl_val hτ rfl rfl rfl ?_
          refine awl_val hτ rfl rfl rfl ?_
          refine awl_val hτ rfl rfl rfl ?_
          refine awl_val hτ rfl rfl rfl ?_
          refine awl_nil ?_
          refine aw_weak (weak_ofP [] (l := [(4, .d (.bool ((fcmp .gtr .f64 (farith .quo .f64 (4607182418800017408 : Nat) a_) (0 : Nat)) == (fcmp .gtr .f64 (farith .quo .f64 (4607182418800017408 : Nat) b_) (0 : Nat)))))]) (objs := []) rfl (by simp) rfl (by repeat' first | exact trivial | refine ⟨?_, ?_⟩) ⟨rfl, trivial, trivial⟩) ?_
          refine aw_ret ?_
          have hr := Option.some.inj h
          subst hr
          exact ret_objs (.inr rfl) [] (objs' := []) (new := []) rfl (by simp) (by simp) rfl (by repeat' first | exact trivial | refine ⟨?_, ?_⟩) rfl rfl (by repeat' first | exact trivial | refine ⟨?_, ?_⟩) (fun _ => ⟨by simp [V.flat, V.flatA, V.flatC, D.flat], flat_nil⟩) ⟨rfl, rfl, rfl⟩
        · have h := if_bf h hc17
          refine aw_skip ?_
          refine aw_weak (weak_ofP [] (l := [(0, .d (.fl .f64 a_)), (1, .d (.fl .f64 b_))]) (objs := []) rfl (by simp) rfl (by repeat' first | exact trivial | refine ⟨?_, ?_⟩) ⟨rfl, trivial, rfl, trivial, trivial⟩) ?_
          exact hk13 () h
      · refine aw_seq ?_
        refine aw_region ?_
        refine awl_val hτ rfl rfl rfl ?_
        refine awl_val hτ rfl rfl rfl ?_
        refine awl_val hτ rfl rfl rfl ?_
        refine awl_split 23 rfl (fun hb19 => ?_) (fun hb19 => ?_)
        · have h := if_bt h hb19
          refine awl_val hτ rfl rfl rfl ?_
          refine awl_val hτ rfl rfl rfl ?_
          refine awl_val hτ rfl rfl rfl ?_
          refine awl_nil ?_
          refine aw_weak (weak_ofP [] (l := [(0, .d (.fl .f64 a_)), (1, .d (.fl .f64 b_)), (26, .d (.bool (fcmp .eql .f64 b_ (0 : Nat))))]) (objs := []) rfl (by simp) rfl (by repeat' first | exact trivial | refine ⟨?_, ?_⟩) ⟨rfl, trivial, rfl, trivial, rfl, trivial, trivial⟩) ?_
          exact hk18 (fcmp .eql .f64 b_ (0 : Nat)) h
        · have h := if_bf h hb19
          refine awl_skip rfl rfl ?_
          refine awl_skip rfl rfl ?_
          refine awl_val hτ rfl rfl rfl ?_
          refine awl_nil ?_
          refine aw_weak (weak_ofP [] (l := [(0, .d (.fl .f64 a_)), (1, .d (.fl .f64 b_)), (26, .d (.bool false))]) (objs := []) rfl (by simp) rfl (by repeat' first | exact trivial | refine ⟨?_, ?_⟩) ⟨rfl, trivial, rfl, trivial, rfl, trivial, trivial⟩) ?_
          exact hk18 false h
  · refine aw_seq ?_
    refine aw_hk1 (ι := Bool) (fun v23 => St.of [(0, .d (.fl .f64 a_)), (1, .d (.fl .f64 b_)), (12, .d (.bool v23))] [] f145.ntmps 0) (fun v23 => m_laws_sameFloat_j4 n a_ b_ v23 = some r) ?_ (fun hk26 => ?_)
    · rintro v23 h
      replace h : m_laws_sameFloat_j4 n a_ b_ v23 = some r := h
      unfold m_laws_sameFloat_j4 at h
      refine aw_cond rfl (fun hc24 => ?_) (fun hc24 => ?_)
      · have h := if_bt h hc24
        refine aw_seq ?_
        refine aw_region ?_
        refine awl_val hτ rfl rfl rfl ?_
        refine awl_val hτ rfl rfl rfl ?_
        refine awl_val hτ rfl rfl rfl ?_
        refine awl_val hτ rfl rfl rfl ?_
        refine awl_split 16 rfl (fun hb25 => ?_) (fun hb25 => ?_)
        · have h := if_bt h hb25
          refine awl_val hτ rfl rfl rfl ?_
          refine awl_val hτ rfl rfl rfl ?_
          refine awl_val hτ rfl rfl rfl ?_
          refine awl_val hτ rfl rfl rfl ?_
          refine awl_val hτ rfl rfl rfl ?_
          refine awl_nil ?_
          refine aw_weak (weak_ofP [] (l := [(4, .d (.bool (fcmp .neq .f64 b_ b_)))]) (objs := []) rfl (by simp) rfl (by repeat' first | exact trivial | refine ⟨?_, ?_⟩) ⟨rfl, trivial, trivial⟩) ?_
          refine aw_ret ?_
          have hr := Option.some.inj h
          subst hr
          exact ret_objs (.inr rfl) [] (objs' := []) (new := []) rfl (by simp) (by simp) rfl (by repeat' first | exact trivial | refine ⟨?_, ?_⟩) rfl rfl (by repeat' first | exact trivial | refine ⟨?_, ?_⟩) (fun _ => ⟨by simp [V.flat, V.flatA, V.flatC, D.flat], flat_nil⟩) ⟨rfl, rfl, rfl⟩
        · have h := if_bf h hb25
          refine awl_skip rfl rfl ?_
          refine awl_skip rfl rfl ?_
          refine awl_skip rfl rfl ?_
          refine awl_val hτ rfl rfl rfl ?_
          refine awl_val hτ rfl rfl rfl ?_
          refine awl_nil ?_
          refine aw_weak (weak_ofP [] (l := [(4, .d (.bool false))]) (objs := []) rfl (by simp) rfl (by repeat' first | exact trivial | refine ⟨?_, ?_⟩) ⟨rfl, trivial, trivial⟩) ?_
          refine aw_ret ?_
          have hr := Option.some.inj h
          subst hr
          exact ret_objs (.inr rfl) [] (objs' := []) (new := []) rfl (by simp) (by simp) rfl (by repeat' first | exact trivial | refine ⟨?_, ?_⟩) rfl rfl (by repeat' first | exact trivial | refine ⟨?_, ?_⟩) (fun _ => ⟨by simp [V.flat, V.flatA, V.flatC, D.flat], flat_nil⟩) ⟨rfl, rfl, rfl⟩
      · have h := if_bf h hc24
        refine aw_skip ?_
        refine aw_weak (weak_ofP [] (l := [(0, .d (.fl .f64 a_)), (1, .d (.fl .f64 b_))]) (objs := []) rfl (by simp) rfl (by repeat' first | exact trivial | refine ⟨?_, ?_⟩) ⟨rfl, trivial, rfl, trivial, trivial⟩) ?_
        exact hk20 () h
    · refine aw_seq ?_
      refine aw_region ?_
      refine awl_val hτ rfl rfl rfl ?_
      refine awl_val hτ rfl rfl rfl ?_
      refine awl_val hτ rfl rfl rfl ?_
      refine awl_val hτ rfl rfl rfl ?_
      refine awl_split 8 rfl (fun hb27 => ?_) (fun hb27 => ?_)
      · have h := if_bt h hb27
        refine awl_skip rfl rfl ?_
        refine awl_skip rfl rfl ?_
        refine awl_skip rfl rfl ?_
        refine awl_val hτ rfl rfl rfl ?_
        refine awl_nil ?_
        refine aw_weak (weak_ofP [] (l := [(0, .d (.fl .f64 a_)), (1, .d (.fl .f64 b_)), (12, .d (.bool true))]) (objs := []) rfl (by simp) rfl (by repeat' first | exact trivial | refine ⟨?_, ?_⟩) ⟨rfl, trivial, rfl, trivial, rfl, trivial, trivial⟩) ?_
        exact hk26 true h
      · have h := if_bf h hb27
        refine awl_val hτ rfl rfl rfl ?_
        refine awl_val hτ rfl rfl rfl ?_
        refine awl_val hτ rfl rfl rfl ?_
        refine awl_val hτ rfl rfl rfl ?_
        refine awl_nil ?_
        refine aw_weak (weak_ofP [] (l := [(0, .d (.fl .f64 a_)), (1, .d (.fl .f64 b_)), (12, .d (.bool (fcmp .neq .f64 b_ b_)))]) (objs := []) rfl (by simp) rfl (by repeat' first | exact trivial | refine ⟨?_, ?_⟩) ⟨rfl, trivial, rfl, trivial, rfl, trivial, trivial⟩) ?_
        exact hk26 (fcmp .neq .f64 b_ b_) h
theorem laws_sameFloat_ok (n : Nat) (a_ : Nat) (b_ : Nat) {r : Bool} (h : m_laws_sameFloat n a_ b_ = some r) : ACall prog false 145 [.d (.fl .f64 a_), .d (.fl .f64 b_)] [] (fun v o new => v = .d (.bool r) ∧ o = [] ∧ new = []) := laws_sameFloat_ok_fr0 false n a_ b_ h
theorem laws_sameFloat_ok_fr (n : Nat) (a_ : Nat) (b_ : Nat) {r : Bool} (h : m_laws_sameFloat n a_ b_ = some r) : ACall prog true 145 [.d (.fl .f64 a_), .d (.fl .f64 b_)] [] (fun v o new => v = .d (.bool r) ∧ o = [] ∧ new = []) := laws_sameFloat_ok_fr0 true n a_ b_ h

def m_laws_sameComplex (n : Nat) (a_ : Cx) (b_ : Cx) : Option Bool :=
  (m_laws_sameFloat n a_.re b_.re).bind fun x5 =>
  if x5 = true then
    (m_laws_sameFloat n a_.im b_.im).bind fun x7 =>
    some x7
  else
    some false
theorem laws_sameComplex_ok_fr0 (fr : Bool) (n : Nat) (a_ : Cx) (b_ : Cx) {r : Bool} (h : m_laws_sameComplex n a_ b_ = some r) : ACall prog fr 136 [.d (.cx .f64 a_.re a_.im), .d (.cx .f64 b_.re b_.im)] [] (fun v o new => v = .d (.bool r) ∧ o = [] ∧ new = []) := by
  refine acall_of_aw hτ func136 rfl (by simp) (by simp) ?_
  unfold m_laws_sameComplex at h
  refine aw_seq ?_
  refine aw_region ?_
  refine awl_val hτ rfl rfl rfl ?_
  refine awl_nil ?_
  refine aw_seq ?_
  refine aw_region ?_
  refine awl_val hτ rfl rfl rfl ?_
  refine awl_val hτ rfl rfl rfl ?_
  refine awl_val hτ rfl rfl rfl ?_
  refine awl_val hτ rfl rfl rfl ?_
  refine bnd_elim h fun x5 hx5 h => ?_
  refine awl_callP hτ false [] rfl rfl rfl (enterOk func145 rfl rfl) rfl rfl (by simp) ⟨trivial, trivial, trivial⟩ (by repeat' first | exact trivial | refine ⟨?_, ?_⟩) (laws_sameFloat_ok n a_.re b_.re hx5) ?_
  rintro r0 o0 n0 ⟨rfl, rfl, rfl⟩ -
  refine awl_val hτ rfl rfl rfl ?_
  refine awl_split 10 rfl (fun hb6 => ?_) (fun hb6 => ?_)
  · have h := if_bt h hb6
    refine awl_val hτ rfl rfl rfl ?_
    refine awl_val hτ rfl rfl rfl ?_
    refine awl_val hτ rfl rfl rfl ?_
    refine awl_val hτ rfl rfl rfl ?_
    refine bnd_elim h fun x7 hx7 h => ?_
    refine awl_callP hτ false [] rfl rfl rfl (enterOk func145 rfl rfl) rfl rfl (by simp) ⟨trivial, trivial, trivial⟩ (by repeat' first | exact trivial | refine ⟨?_, ?_⟩) (laws_sameFloat_ok n a_.im b_.im hx7) ?_
    rintro r0 o0 n0 ⟨rfl, rfl, rfl⟩ -
    refine awl_weak (weak_ofP [] (l := [(4, .d (.bool false)), (10, .d (.bool true)), (15, .d (.bool x7))]) (objs := []) rfl (by simp) rfl (by repeat' first | exact trivial | refine ⟨?_, ?_⟩) ⟨rfl, trivial, rfl, trivial, rfl, trivial, trivial⟩) ?_
    refine awl_val hτ rfl rfl rfl ?_
    refine awl_val hτ rfl rfl rfl ?_
    refine awl_nil ?_
    refine aw_weak (weak_ofP [] (l := [(4, .d (.bool x7))]) (objs := []) rfl (by simp) rfl (by repeat' first | exact trivial | refine ⟨?_, ?_⟩) ⟨rfl, trivial, trivial⟩) ?_
    refine aw_ret ?_
    have hr := Option.some.inj h
    subst hr
    exact ret_objs (.inr rfl) [] (objs' := []) (new := []) rfl (by simp) (by simp) rfl (by repeat' first | exact trivial | refine ⟨?_, ?_⟩) rfl rfl (by repeat' first | exact trivial | refine ⟨?_, ?_⟩) (fun _ => ⟨by simp [V.flat, V.flatA, V.flatC, D.flat], flat_nil⟩) ⟨rfl, rfl, rfl⟩
  · have h := if_bf h hb6
    refine awl_skip rfl rfl ?_
    refine awl_skip rfl rfl ?_
    refine awl_skip rfl rfl ?_
    refine awl_skip rfl rfl ?_
    refine awl_skip rfl rfl ?_
    refine awl_weak (weak_ofP [] (l := [(4, .d (.bool false)), (10, .d (.bool false)), (15, .und)]) (objs := []) rfl (by simp) rfl (by repeat' first | exact trivial | refine ⟨?_, ?_⟩) ⟨rfl, trivial, rfl, trivial, rfl, trivial, trivial⟩) ?_
    refine awl_val hτ rfl rfl rfl ?_
    refine awl_val hτ rfl rfl rfl ?_
    refine awl_nil ?_
    refine aw_weak (weak_ofP [] (l := [(4, .d (.bool false))]) (objs := []) rfl (by simp) rfl (by repeat' first | exact trivial | refine ⟨?_, ?_⟩) ⟨rfl, trivial, trivial⟩) ?_
    refine aw_ret ?_
    have hr := Option.some.inj h
    subst hr
    exact ret_objs (.inr rfl) [] (objs' := []) (new := []) rfl (by simp) (by simp) rfl (by repeat' first | exact trivial | refine ⟨?_, ?_⟩) rfl rfl (by repeat' first | exact trivial | refine ⟨?_, ?_⟩) (fun _ => ⟨by simp [V.flat, V.flatA, V.flatC, D.flat], flat_nil⟩) ⟨rfl, rfl, rfl⟩
theorem laws_sameComplex_ok (n : Nat) (a_ : Cx) (b_ : Cx) {r : Bool} (h : m_laws_sameComplex n a_ b_ = some r) : ACall prog false 136 [.d (.cx .f64 a_.re a_.im), .d (.cx .f64 b_.re b_.im)] [] (fun v o new => v = .d (.bool r) ∧ o = [] ∧ new = []) := laws_sameComplex_ok_fr0 false n a_ b_ h
theorem laws_sameComplex_ok_fr (n : Nat) (a_ : Cx) (b_ : Cx) {r : Bool} (h : m_laws_sameComplex n a_ b_ = some r) : ACall prog true 136 [.d (.cx .f64 a_.re a_.im), .d (.cx .f64 b_.re b_.im)] [] (fun v o new => v = .d (.bool r) ∧ o = [] ∧ new = []) := laws_sameComplex_ok_fr0 true n a_ b_ h

def m_laws_eqPhases (n : Nat) (a_ : SPhases) (b_ : SPhases) : Option Bool :=
  (fconv .f32 .f64 a_.A.re).bind fun x21 =>
  (fconv .f32 .f64 a_.A.im).bind fun x22 =>
  (fconv .f32 .f64 b_.A.re).bind fun x23 =>
  (fconv .f32 .f64 b_.A.im).bind fun x24 =>
  (m_laws_sameComplex n (Cx.mk x21 x22) (Cx.mk x23 x24)).bind fun x25 =>
  if x25 = true then
    (fconv .f32 .f64 a_.B.re).bind fun x32 =>
    (fconv .f32 .f64 a_.B.im).bind fun x33 =>
    (fconv .f32 .f64 b_.B.re).bind fun x34 =>
    (fconv .f32 .f64 b_.B.im).bind fun x35 =>
    (m_laws_sameComplex n (Cx.mk x32 x33) (Cx.mk x34 x35)).bind fun x36 =>
    if x36 = true then
      (fconv .f32 .f64 a_.C.re).bind fun x38 =>
      (fconv .f32 .f64 a_.C.im).bind fun x39 =>
      (fconv .f32 .f64 b_.C.re).bind fun x40 =>
      (fconv .f32 .f64 b_.C.im).bind fun x41 =>
      (m_laws_sameComplex n (Cx.mk x38 x39) (Cx.mk x40 x41)).bind fun x42 =>
      if x42 = true then
        some true
      else
        some false
    else
      some false
  else
    some false
theorem laws_eqPhases_ok_fr0 (fr : Bool) (n : Nat) (a_ : SPhases) (b_ : SPhases) {r : Bool} (h : m_laws_eqPhases n a_ b_ = some r) : ACall prog fr 116 [.agg [.d (.cx .f32 a_.A.re a_.A.im), .d (.cx .f32 a_.B.re a_.B.im), .d (.cx .f32 a_.C.re a_.C.im)], .agg [.d (.cx .f32 b_.A.re b_.A.im), .d (.cx .f32 b_.B.re b_.B.im), .d (.cx .f32 b_.C.re b_.C.im)]] [] (fun v o new => v = .d (.bool r) ∧ o = [] ∧ new = []) := by
  refine acall_of_aw hτ func116 rfl (by simp) (by simp) ?_
  unfold m_laws_eqPhases at h
  refine aw_seq ?_
  refine aw_region ?_
  refine awl_valH hτ rfl rfl rfl ?_
  refine awl_valH hτ rfl rfl rfl ?_
  refine awl_val hτ rfl rfl rfl ?_
  refine awl_nil ?_
  refine aw_seq ?_
  refine aw_seq ?_
  refine aw_region ?_
  refine awl_val hτ rfl rfl rfl ?_
  refine awl_val hτ rfl rfl rfl ?_
  refine bnd_elim h fun x21 hx21 h => ?_
  refine bnd_elim h fun x22 hx22 h => ?_
  refine awl_x rfl rfl (x_c2c hτ rfl rfl rfl rfl rfl rfl hx21 hx22) ?_
  refine awl_val hτ rfl rfl rfl ?_
  refine awl_val hτ rfl rfl rfl ?_
  refine bnd_elim h fun x23 hx23 h => ?_
  refine bnd_elim h fun x24 hx24 h => ?_
  refine awl_x rfl rfl (x_c2c hτ rfl rfl rfl rfl rfl rfl hx23 hx24) ?_
  refine bnd_elim h fun x25 hx25 h => ?_
  refine awl_callP hτ false [] rfl rfl rfl (enterOk func136 rfl rfl) rfl rfl (by simp) ⟨trivial, trivial, trivial⟩ (by repeat' first | exact trivial | refine ⟨?_, ?_⟩) (laws_sameComplex_ok n (Cx.mk x21 x22) (Cx.mk x23 x24) hx25) ?_
  rintro r0 o0 n0 ⟨rfl, rfl, rfl⟩ -
  refine awl_val hτ rfl rfl rfl ?_
  refine awl_nil ?_
  refine aw_weak (weak_ofP [0, 1] (l := [(2, .ptr 0 0), (3, .ptr 1 0), (12, .d (.bool (!x25)))]) (objs := [.box [.d (.cx .f32 a_.A.re a_.A.im), .d (.cx .f32 a_.B.re a_.B.im), .d (.cx .f32 a_.C.re a_.C.im)], .box [.d (.cx .f32 b_.A.re b_.A.im), .d (.cx .f32 b_.B.re b_.B.im), .d (.cx .f32 b_.C.re b_.C.im)]]) rfl (by simp) rfl (by repeat' first | exact trivial | refine ⟨?_, ?_⟩) ⟨rfl, trivial, rfl, trivial, rfl, trivial, trivial⟩) ?_
  refine aw_cond rfl (fun hc26 => ?_) (fun hc26 => ?_)
  · have hc26 := not_t hc26
    have h := if_bf h hc26
    refine aw_seq ?_
    refine aw_region ?_
    refine awl_val hτ rfl rfl rfl ?_
    refine awl_nil ?_
    refine aw_weak (weak_ofP [] (l := [(4, .d (.bool false))]) (objs := []) rfl (by simp) rfl (by repeat' first | exact trivial | refine ⟨?_, ?_⟩) ⟨rfl, trivial, trivial⟩) ?_
    refine aw_ret ?_
    have hr := Option.some.inj h
    subst hr
    exact ret_objs (.inr rfl) [] (objs' := []) (new := []) rfl (by simp) (by simp) rfl (by repeat' first | exact trivial | refine ⟨?_, ?_⟩) rfl rfl (by repeat' first | exact trivial | refine ⟨?_, ?_⟩) (fun _ => ⟨by simp [V.flat, V.flatA, V.flatC, D.flat], flat_nil⟩) ⟨rfl, rfl, rfl⟩
  · have hc26 := not_f hc26
    have h := if_bt h hc26
    refine aw_skip ?_
    refine aw_seq ?_
    refine aw_seq ?_
    refine aw_region ?_
    refine awl_val hτ rfl rfl rfl ?_
    refine awl_val hτ rfl rfl rfl ?_
    refine bnd_elim h fun x32 hx32 h => ?_
    refine bnd_elim h fun x33 hx33 h => ?_
    refine awl_x rfl rfl (x_c2c hτ rfl rfl rfl rfl rfl rfl hx32 hx33) ?_
    refine awl_val hτ rfl rfl rfl ?_
    refine awl_val hτ rfl rfl rfl ?_
    refine bnd_elim h fun x34 hx34 h => ?_
    refine bnd_elim h fun x35 hx35 h => ?_
    refine awl_x rfl rfl (x_c2c hτ rfl rfl rfl rfl rfl rfl hx34 hx35) ?_
    refine bnd_elim h fun x36 hx36 h => ?_
    refine awl_callP hτ false [] rfl rfl rfl (enterOk func136 rfl rfl) rfl rfl (by simp) ⟨trivial, trivial, trivial⟩ (by repeat' first | exact trivial | refine ⟨?_, ?_⟩) (laws_sameComplex_ok n (Cx.mk x32 x33) (Cx.mk x34 x35) hx36) ?_
    rintro r0 o0 n0 ⟨rfl, rfl, rfl⟩ -
    refine awl_val hτ rfl rfl rfl ?_
    refine awl_nil ?_
    refine aw_weak (weak_ofP [0, 1] (l := [(2, .ptr 0 0), (3, .ptr 1 0), (20, .d (.bool (!x36)))]) (objs := [.box [.d (.cx .f32 a_.A.re a_.A.im), .d (.cx .f32 a_.B.re a_.B.im), .d (.cx .f32 a_.C.re a_.C.im)], .box [.d (.cx .f32 b_.A.re b_.A.im), .d (.cx .f32 b_.B.re b_.B.im), .d (.cx .f32 b_.C.re b_.C.im)]]) rfl (by simp) rfl (by repeat' first | exact trivial | refine ⟨?_, ?_⟩) ⟨rfl, trivial, rfl, trivial, rfl, trivial, trivial⟩) ?_
    refine aw_cond rfl (fun hc37 => ?_) (fun hc37 => ?_)
    · have hc37 := not_t hc37
      have h := if_bf h hc37
      refine aw_seq ?_
      refine aw_region ?_
      refine awl_val hτ rfl rfl rfl ?_
      refine awl_nil ?_
      refine aw_weak (weak_ofP [] (l := [(4, .d (.bool false))]) (objs := []) rfl (by simp) rfl (by repeat' first | exact trivial | refine ⟨?_, ?_⟩) ⟨rfl, trivial, trivial⟩) ?_
      refine aw_ret ?_
      have hr := Option.some.inj h
      subst hr
      exact ret_objs (.inr rfl) [] (objs' := []) (new := []) rfl (by simp) (by simp) rfl (by repeat' first | exact trivial | refine ⟨?_, ?_⟩) rfl rfl (by repeat' first | exact trivial | refine ⟨?_, ?_⟩) (fun _ => ⟨by simp [V.flat, V.flatA, V.flatC, D.flat], flat_nil⟩) ⟨rfl, rfl, rfl⟩
    · have hc37 := not_f hc37
      have h := if_bt h hc37
      refine aw_skip ?_
      refine aw_seq ?_
      refine aw_seq ?_
      refine aw_region ?_
      refine awl_val hτ rfl rfl rfl ?_
      refine awl_val hτ rfl rfl rfl ?_
      refine bnd_elim h fun x38 hx38 h => ?_
      refine bnd_elim h fun x39 hx39 h => ?_
      refine awl_x rfl rfl (x_c2c hτ rfl rfl rfl rfl rfl rfl hx38 hx39) ?_
      refine awl_val hτ rfl rfl rfl ?_
      refine awl_val hτ rfl rfl rfl ?_
      refine bnd_elim h fun x40 hx40 h => ?_
      refine bnd_elim h fun x41 hx41 h => ?_
      refine awl_x rfl rfl (x_c2c hτ rfl rfl rfl rfl rfl rfl hx40 hx41) ?_
      refine bnd_elim h fun x42 hx42 h => ?_
      refine awl_callP hτ false [] rfl rfl rfl (enterOk func136 rfl rfl) rfl rfl (by simp) ⟨trivial, trivial, trivial⟩ (by repeat' first | exact trivial | refine ⟨?_, ?_⟩) (laws_sameComplex_ok n (Cx.mk x38 x39) (Cx.mk x40 x41) hx42) ?_
      rintro r0 o0 n0 ⟨rfl, rfl, rfl⟩ -
      refine awl_val hτ rfl rfl rfl ?_
      refine awl_nil ?_
      refine aw_weak (weak_ofP [] (l := [(28, .d (.bool (!x42)))]) (objs := []) rfl (by simp) rfl (by repeat' first | exact trivial | refine ⟨?_, ?_⟩) ⟨rfl, trivial, trivial⟩) ?_
      refine aw_cond rfl (fun hc43 => ?_) (fun hc43 => ?_)
      · have hc43 := not_t hc43
        have h := if_bf h hc43
        refine aw_seq ?_
        refine aw_region ?_
        refine awl_val hτ rfl rfl rfl ?_
        refine awl_nil ?_
        refine aw_weak (weak_ofP [] (l := [(4, .d (.bool false))]) (objs := []) rfl (by simp) rfl (by repeat' first | exact trivial | refine ⟨?_, ?_⟩) ⟨rfl, trivial, trivial⟩) ?_
        refine aw_ret ?_
        have hr := Option.some.inj h
        subst hr
        exact ret_objs (.inr rfl) [] (objs' := []) (new := []) rfl (by simp) (by simp) rfl (by repeat' first | exact trivial | refine ⟨?_, ?_⟩) rfl rfl (by repeat' first | exact trivial | refine ⟨?_, ?_⟩) (fun _ => ⟨by simp [V.flat, V.flatA, V.flatC, D.flat], flat_nil⟩) ⟨rfl, rfl, rfl⟩
      · have hc43 := not_f hc43
        have h := if_bt h hc43
        refine aw_skip ?_
        refine aw_seq ?_
        refine aw_region ?_
        refine awl_val hτ rfl rfl rfl ?_
        refine awl_nil ?_
        refine aw_weak (weak_ofP [] (l := [(4, .d (.bool true))]) (objs := []) rfl (by simp) rfl (by repeat' first | exact trivial | refine ⟨?_, ?_⟩) ⟨rfl, trivial, trivial⟩) ?_
        refine aw_ret ?_
        have hr := Option.some.inj h
        subst hr
        exact ret_objs (.inr rfl) [] (objs' := []) (new := []) rfl (by simp) (by simp) rfl (by repeat' first | exact trivial | refine ⟨?_, ?_⟩) rfl rfl (by repeat' first | exact trivial | refine ⟨?_, ?_⟩) (fun _ => ⟨by simp [V.flat, V.flatA, V.flatC, D.flat], flat_nil⟩) ⟨rfl, rfl, rfl⟩
theorem laws_eqPhases_ok (n : Nat) (a_ : SPhases) (b_ : SPhases) {r : Bool} (h : m_laws_eqPhases n a_ b_ = some r) : ACall prog false 116 [.agg [.d (.cx .f32 a_.A.re a_.A.im), .d (.cx .f32 a_.B.re a_.B.im), .d (.cx .f32 a_.C.re a_.C.im)], .agg [.d (.cx .f32 b_.A.re b_.A.im), .d (.cx .f32 b_.B.re b_.B.im), .d (.cx .f32 b_.C.re b_.C.im)]] [] (fun v o new => v = .d (.bool r) ∧ o = [] ∧ new = []) := laws_eqPhases_ok_fr0 false n a_ b_ h
theorem laws_eqPhases_ok_fr (n : Nat) (a_ : SPhases) (b_ : SPhases) {r : Bool} (h : m_laws_eqPhases n a_ b_ = some r) : ACall prog true 116 [.agg [.d (.cx .f32 a_.A.re a_.A.im), .d (.cx .f32 a_.B.re a_.B.im), .d (.cx .f32 a_.C.re a_.C.im)], .agg [.d (.cx .f32 b_.A.re b_.A.im), .d (.cx .f32 b_.B.re b_.B.im), .d (.cx .f32 b_.C.re b_.C.im)]] [] (fun v o new => v = .d (.bool r) ∧ o = [] ∧ new = []) := laws_eqPhases_ok_fr0 true n a_ b_ h

def m_laws_eqPhasesS_l1 (n : Nat) (a_ : List SPhases) (b_ : List SPhases) : Nat → Int → Option Bool
  | 0, _ => none
  | m18 + 1, v13 =>
    if v13 < (a_.length : Int) then
      (getI a_ v13).bind fun x24 =>
      (getI b_ v13).bind fun x25 =>
      (m_laws_eqPhases n x24 x25).bind fun x26 =>
      if x26 = true then
        (m_laws_eqPhasesS_l1 n a_ b_ m18) (w64 (v13 + (1 : Int)))
      else
        some false
    else
      some true
def m_laws_eqPhasesS (n : Nat) (a_ : List SPhases) (b_ : List SPhases) : Option Bool :=
  if (a_.length : Int) = (b_.length : Int) then
    m_laws_eqPhasesS_l1 n a_ b_ n (0 : Int)
  else
    some false
theorem laws_eqPhasesS_ok_fr0 (fr : Bool) (n : Nat) (a_ : List SPhases) (b_ : List SPhases) {r : Bool} (h : m_laws_eqPhasesS n a_ b_ = some r) : ACall prog fr 85 [.d (.sl false (a_.map eSPhases)), .d (.sl false (b_.map eSPhases))] [] (fun v o new => v = .d (.bool r) ∧ o = [] ∧ new = []) := by
  refine acall_of_aw hτ func85 rfl (by simp) (by simp) ?_
  unfold m_laws_eqPhasesS at h
  refine aw_seq ?_
  refine aw_region ?_
  refine awl_val hτ rfl rfl rfl ?_
  refine awl_nil ?_
  refine aw_seq ?_
  refine aw_seq ?_
  refine aw_region ?_
  refine awl_val hτ rfl rfl rfl ?_
  refine awl_val hτ (v := .d (.int .i64 (a_.length : Int))) rfl rfl (Eq.trans rfl (or_len (f := eSPhases) a_)) ?_
  refine awl_val hτ rfl rfl rfl ?_
  refine awl_val hτ (v := .d (.int .i64 (b_.length : Int))) rfl rfl (Eq.trans rfl (or_len (f := eSPhases) b_)) ?_
  refine awl_val hτ (v := .d (.bool (!(decide ((a_.length : Int) = (b_.length : Int)))))) rfl rfl (or_ine _ _) ?_
  refine awl_nil ?_
  refine aw_weak (weak_ofP [] (l := [(0, .d (.sl false (a_.map eSPhases))), (1, .d (.sl false (b_.map eSPhases))), (10, .d (.bool (!(decide ((a_.length : Int) = (b_.length : Int))))))]) (objs := []) rfl (by simp) rfl (by repeat' first | exact trivial | refine ⟨?_, ?_⟩) ⟨rfl, trivial, rfl, trivial, rfl, trivial, trivial⟩) ?_
  refine aw_cond rfl (fun hc9 => ?_) (fun hc9 => ?_)
  · have hc9 := not_t hc9
    have h := if_f h hc9
    refine aw_seq ?_
    refine aw_region ?_
    refine awl_val hτ rfl rfl rfl ?_
    refine awl_nil ?_
    refine aw_weak (weak_ofP [] (l := [(4, .d (.bool false))]) (objs := []) rfl (by simp) rfl (by repeat' first | exact trivial | refine ⟨?_, ?_⟩) ⟨rfl, trivial, trivial⟩) ?_
    refine aw_ret ?_
    have hr := Option.some.inj h
    subst hr
    exact ret_objs (.inr rfl) [] (objs' := []) (new := []) rfl (by simp) (by simp) rfl (by repeat' first | exact trivial | refine ⟨?_, ?_⟩) rfl rfl (by repeat' first | exact trivial | refine ⟨?_, ?_⟩) (fun _ => ⟨by simp [V.flat, V.flatA, V.flatC, D.flat], flat_nil⟩) ⟨rfl, rfl, rfl⟩
  · have hc9 := not_f hc9
    have h := if_t h hc9
    refine aw_skip ?_
    refine aw_seq ?_
    refine aw_seq ?_
    refine aw_region ?_
    refine awl_val hτ rfl rfl rfl ?_
    refine awl_nil ?_
    refine aw_block ?_
    refine aw_loop (ι := Nat × Int) (fun (m18, v13) => St.of [(0, .d (.sl false (a_.map eSPhases))), (1, .d (.sl false (b_.map eSPhases))), (5, .d (.int .i64 v13))] [] f85.ntmps 0) (fun (m18, v13) => m_laws_eqPhasesS_l1 n a_ b_ m18 v13 = some r) (fun x => x.1) (n, (0 : Int)) h (weak_ofP [] (l := [(0, .d (.sl false (a_.map eSPhases))), (1, .d (.sl false (b_.map eSPhases))), (5, .d (.int .i64 (0 : Int)))]) (objs := []) rfl (by simp) rfl (by repeat' first | exact trivial | refine ⟨?_, ?_⟩) ⟨rfl, trivial, rfl, trivial, rfl, trivial, trivial⟩) ?_
    rintro ⟨m18, v13⟩ h
    replace h : m_laws_eqPhasesS_l1 n a_ b_ m18 v13 = some r := h
    rcases m18 with _ | m18
    · rw [m_laws_eqPhasesS_l1] at h; cases h
    rw [m_laws_eqPhasesS_l1] at h
    refine aw_seq ?_
    refine aw_seq ?_
    refine aw_region ?_
    refine awl_val hτ rfl rfl rfl ?_
    refine awl_val hτ rfl rfl rfl ?_
    refine awl_val hτ (v := .d (.int .i64 (a_.length : Int))) rfl rfl (Eq.trans rfl (or_len (f := eSPhases) a_)) ?_
    refine awl_val hτ rfl rfl rfl ?_
    refine awl_nil ?_
    refine aw_cond rfl (fun hc20 => ?_) (fun hc20 => ?_)
    · have h := if_t h hc20
      refine aw_skip ?_
      refine aw_seq ?_
      refine aw_block ?_
      refine aw_seq ?_
      refine any_start ?_
      refine any_val hτ [] 0 rfl rfl rfl rfl rfl ?_
      refine any_val hτ [] 1 rfl rfl rfl rfl rfl ?_
      refine bnd_elim h fun x24 hx24 h => ?_
      refine any_elem hτ [] 2 rfl rfl rfl rfl rfl (getI_some hx24).1 (map_getI hx24) rfl ?_
      refine any_val hτ [] 3 rfl rfl rfl rfl rfl ?_
      refine any_val hτ [] 4 rfl rfl rfl rfl rfl ?_
      refine any_val hτ [] 5 rfl rfl rfl rfl rfl ?_
      refine bnd_elim h fun x25 hx25 h => ?_
      refine any_elem hτ [] 6 rfl rfl rfl rfl rfl (getI_some hx25).1 (map_getI hx25) rfl ?_
      refine any_val hτ [] 7 rfl rfl rfl rfl rfl ?_
      refine bnd_elim h fun x26 hx26 h => ?_
      refine any_callP hτ false [] [] 8 rfl rfl rfl rfl (enterOk func116 rfl rfl) rfl rfl (by simp) ⟨(by repeat' first | exact trivial | refine ⟨?_, ?_⟩), (by repeat' first | exact trivial | refine ⟨?_, ?_⟩), trivial⟩ (by repeat' first | exact trivial | refine ⟨?_, ?_⟩) (laws_eqPhases_ok n x24 x25 hx26) trivial ?_
      refine any_val hτ [] 9 rfl rfl rfl rfl rfl ?_
      refine any_done mixed (by kernel_rfl) ?_
      refine aw_weak (weak_ofP [] (l := [(0, .d (.sl false (a_.map eSPhases))), (1, .d (.sl false (b_.map eSPhases))), (5, .d (.int .i64 v13)), (26, .d (.bool (!x26)))]) (objs := []) rfl (by simp) rfl (by repeat' first | exact trivial | refine ⟨?_, ?_⟩) ⟨rfl, trivial, rfl, trivial, rfl, trivial, rfl, trivial, trivial⟩) ?_
      refine aw_cond rfl (fun hc27 => ?_) (fun hc27 => ?_)
      · have hc27 := not_t hc27
        have h := if_bf h hc27
        refine aw_seq ?_
        refine aw_region ?_
        refine awl_val hτ rfl rfl rfl ?_
        refine awl_nil ?_
        refine aw_weak (weak_ofP [] (l := [(4, .d (.bool false))]) (objs := []) rfl (by simp) rfl (by repeat' first | exact trivial | refine ⟨?_, ?_⟩) ⟨rfl, trivial, trivial⟩) ?_
        refine aw_ret ?_
        have hr := Option.some.inj h
        subst hr
        exact ret_objs (.inr rfl) [] (objs' := []) (new := []) rfl (by simp) (by simp) rfl (by repeat' first | exact trivial | refine ⟨?_, ?_⟩) rfl rfl (by repeat' first | exact trivial | refine ⟨?_, ?_⟩) (fun _ => ⟨by simp [V.flat, V.flatA, V.flatC, D.flat], flat_nil⟩) ⟨rfl, rfl, rfl⟩
      · have hc27 := not_f hc27
        have h := if_bt h hc27
        refine aw_skip ?_
        refine aw_region ?_
        refine awl_val hτ rfl rfl rfl ?_
        refine awl_val hτ rfl rfl rfl ?_
        refine awl_val hτ rfl rfl rfl ?_
        refine awl_nil ?_
        exact ⟨(m18, (w64 (v13 + (1 : Int)))), h, Nat.lt_succ_self m18, (weak_ofP [] (l := [(0, .d (.sl false (a_.map eSPhases))), (1, .d (.sl false (b_.map eSPhases))), (5, .d (.int .i64 (w64 (v13 + (1 : Int)))))]) (objs := []) rfl (by simp) rfl (by repeat' first | exact trivial | refine ⟨?_, ?_⟩) ⟨rfl, trivial, rfl, trivial, rfl, trivial, trivial⟩)⟩
    · have h := if_f h hc20
      refine aw_exit ?_
      refine aw_seq ?_
      refine aw_region ?_
      refine awl_val hτ rfl rfl rfl ?_
      refine awl_nil ?_
      refine aw_weak (weak_ofP [] (l := [(4, .d (.bool true))]) (objs := []) rfl (by simp) rfl (by repeat' first | exact trivial | refine ⟨?_, ?_⟩) ⟨rfl, trivial, trivial⟩) ?_
      refine aw_ret ?_
      have hr := Option.some.inj h
      subst hr
      exact ret_objs (.inr rfl) [] (objs' := []) (new := []) rfl (by simp) (by simp) rfl (by repeat' first | exact trivial | refine ⟨?_, ?_⟩) rfl rfl (by repeat' first | exact trivial | refine ⟨?_, ?_⟩) (fun _ => ⟨by simp [V.flat, V.flatA, V.flatC, D.flat], flat_nil⟩) ⟨rfl, rfl, rfl⟩
theorem laws_eqPhasesS_ok (n : Nat) (a_ : List SPhases) (b_ : List SPhases) {r : Bool} (h : m_laws_eqPhasesS n a_ b_ = some r) : ACall prog false 85 [.d (.sl false (a_.map eSPhases)), .d (.sl false (b_.map eSPhases))] [] (fun v o new => v = .d (.bool r) ∧ o = [] ∧ new = []) := laws_eqPhasesS_ok_fr0 false n a_ b_ h
theorem laws_eqPhasesS_ok_fr (n : Nat) (a_ : List SPhases) (b_ : List SPhases) {r : Bool} (h : m_laws_eqPhasesS n a_ b_ = some r) : ACall prog true 85 [.d (.sl false (a_.map eSPhases)), .d (.sl false (b_.map eSPhases))] [] (fun v o new => v = .d (.bool r) ∧ o = [] ∧ new = []) := laws_eqPhasesS_ok_fr0 true n a_ b_ h

def m_laws_eqFlow (n : Nat) (a_ : SFlow) (b_ : SFlow) : Option Bool :=
  (m_laws_eqPhasesS n a_.Voltages b_.Voltages).bind fun x4 =>
  if x4 = true then
    (m_laws_eqPhasesS n a_.Currents b_.Currents).bind fun x7 =>
    if x7 = true then
      if a_.Rounds = b_.Rounds then
        if (a_.Rests == b_.Rests) = true then
          some true
        else
          some false
      else
        some false
    else
      some false
  else
    some false
theorem laws_eqFlow_ok_fr0 (fr : Bool) (n : Nat) (a_ : SFlow) (b_ : SFlow) {r : Bool} (h : m_laws_eqFlow n a_ b_ = some r) : ACall prog fr 41 [.agg [.d (.sl false (a_.Voltages.map eSPhases)), .d (.sl false (a_.Currents.map eSPhases)), .d (.int .i64 a_.Rounds), .d (.bool a_.Rests)], .agg [.d (.sl false (b_.Voltages.map eSPhases)), .d (.sl false (b_.Currents.map eSPhases)), .d (.int .i64 b_.Rounds), .d (.bool b_.Rests)]] [] (fun v o new => v = .d (.bool r) ∧ o = [] ∧ new = []) := by
  refine acall_of_aw hτ func41 rfl (by simp) (by simp) ?_
  unfold m_laws_eqFlow at h
  refine aw_seq ?_
  refine aw_region ?_
  refine awl_valH hτ rfl rfl rfl ?_
  refine awl_valH hτ rfl rfl rfl ?_
  refine awl_val hτ rfl rfl rfl ?_
  refine awl_nil ?_
  refine aw_seq ?_
  refine aw_seq ?_
  refine aw_region ?_
  refine awl_val hτ rfl rfl rfl ?_
  refine awl_val hτ rfl rfl rfl ?_
  refine awl_val hτ rfl rfl rfl ?_
  refine awl_val hτ rfl rfl rfl ?_
  refine bnd_elim h fun x4 hx4 h => ?_
  refine awl_callP hτ false [] rfl rfl rfl (enterOk func85 rfl rfl) rfl rfl (by simp) ⟨trivial, trivial, trivial⟩ (by repeat' first | exact trivial | refine ⟨?_, ?_⟩) (laws_eqPhasesS_ok n a_.Voltages b_.Voltages hx4) ?_
  rintro r0 o0 n0 ⟨rfl, rfl, rfl⟩ -
  refine awl_val hτ rfl rfl rfl ?_
  refine awl_nil ?_
  refine aw_weak (weak_ofP [0, 1] (l := [(2, .ptr 0 0), (3, .ptr 1 0), (10, .d (.bool (!x4)))]) (objs := [.box [.d (.sl false (a_.Voltages.map eSPhases)), .d (.sl false (a_.Currents.map eSPhases)), .d (.int .i64 a_.Rounds), .d (.bool a_.Rests)], .box [.d (.sl false (b_.Voltages.map eSPhases)), .d (.sl false (b_.Currents.map eSPhases)), .d (.int .i64 b_.Rounds), .d (.bool b_.Rests)]]) rfl (by simp) rfl (by repeat' first | exact trivial | refine ⟨?_, ?_⟩) ⟨rfl, trivial, rfl, trivial, rfl, trivial, trivial⟩) ?_
  refine aw_cond rfl (fun hc5 => ?_) (fun hc5 => ?_)
  · have hc5 := not_t hc5
    have h := if_bf h hc5
    refine aw_seq ?_
    refine aw_region ?_
    refine awl_val hτ rfl rfl rfl ?_
    refine awl_nil ?_
    refine aw_weak (weak_ofP [] (l := [(4, .d (.bool false))]) (objs := []) rfl (by simp) rfl (by repeat' first | exact trivial | refine ⟨?_, ?_⟩) ⟨rfl, trivial, trivial⟩) ?_
    refine aw_ret ?_
    have hr := Option.some.inj h
    subst hr
    exact ret_objs (.inr rfl) [] (objs' := []) (new := []) rfl (by simp) (by simp) rfl (by repeat' first | exact trivial | refine ⟨?_, ?_⟩) rfl rfl (by repeat' first | exact trivial | refine ⟨?_, ?_⟩) (fun _ => ⟨by simp [V.flat, V.flatA, V.flatC, D.flat], flat_nil⟩) ⟨rfl, rfl, rfl⟩
  · have hc5 := not_f hc5
    have h := if_bt h hc5
    refine aw_skip ?_
    refine aw_seq ?_
    refine aw_seq ?_
    refine aw_region ?_
    refine awl_val hτ rfl rfl rfl ?_
    refine awl_val hτ rfl rfl rfl ?_
    refine awl_val hτ rfl rfl rfl ?_
    refine awl_val hτ rfl rfl rfl ?_
    refine bnd_elim h fun x7 hx7 h => ?_
    refine awl_callP hτ false [] rfl rfl rfl (enterOk func85 rfl rfl) rfl rfl (by simp) ⟨trivial, trivial, trivial⟩ (by repeat' first | exact trivial | refine ⟨?_, ?_⟩) (laws_eqPhasesS_ok n a_.Currents b_.Currents hx7) ?_
    rintro r0 o0 n0 ⟨rfl, rfl, rfl⟩ -
    refine awl_val hτ rfl rfl rfl ?_
    refine awl_nil ?_
    refine aw_weak (weak_ofP [0, 1] (l := [(2, .ptr 0 0), (3, .ptr 1 0), (16, .d (.bool (!x7)))]) (objs := [.box [.d (.sl false (a_.Voltages.map eSPhases)), .d (.sl false (a_.Currents.map eSPhases)), .d (.int .i64 a_.Rounds), .d (.bool a_.Rests)], .box [.d (.sl false (b_.Voltages.map eSPhases)), .d (.sl false (b_.Currents.map eSPhases)), .d (.int .i64 b_.Rounds), .d (.bool b_.Rests)]]) rfl (by simp) rfl (by repeat' first | exact trivial | refine ⟨?_, ?_⟩) ⟨rfl, trivial, rfl, trivial, rfl, trivial, trivial⟩) ?_
    refine aw_cond rfl (fun hc8 => ?_) (fun hc8 => ?_)
    · have hc8 := not_t hc8
      have h := if_bf h hc8
      refine aw_seq ?_
      refine aw_region ?_
      refine awl_val hτ rfl rfl rfl ?_
      refine awl_nil ?_
      refine aw_weak (weak_ofP [] (l := [(4, .d (.bool false))]) (objs := []) rfl (by simp) rfl (by repeat' first | exact trivial | refine ⟨?_, ?_⟩) ⟨rfl, trivial, trivial⟩) ?_
      refine aw_ret ?_
      have hr := Option.some.inj h
      subst hr
      exact ret_objs (.inr rfl) [] (objs' := []) (new := []) rfl (by simp) (by simp) rfl (by repeat' first | exact trivial | refine ⟨?_, ?_⟩) rfl rfl (by repeat' first | exact trivial | refine ⟨?_, ?_⟩) (fun _ => ⟨by simp [V.flat, V.flatA, V.flatC, D.flat], flat_nil⟩) ⟨rfl, rfl, rfl⟩
    · have hc8 := not_f hc8
      have h := if_bt h hc8
      refine aw_skip ?_
      refine aw_seq ?_
      refine aw_seq ?_
      refine aw_region ?_
      refine awl_val hτ rfl rfl rfl ?_
      refine awl_val hτ rfl rfl rfl ?_
      refine awl_val hτ rfl rfl rfl ?_
      refine awl_val hτ rfl rfl rfl ?_
      refine awl_val hτ (v := .d (.bool (!(decide (a_.Rounds = b_.Rounds))))) rfl rfl (or_ine _ _) ?_
      refine awl_nil ?_
      refine aw_cond rfl (fun hc9 => ?_) (fun hc9 => ?_)
      · have hc9 := not_t hc9
        have h := if_f h hc9
        refine aw_seq ?_
        refine aw_region ?_
        refine awl_val hτ rfl rfl rfl ?_
        refine awl_nil ?_
        refine aw_weak (weak_ofP [] (l := [(4, .d (.bool false))]) (objs := []) rfl (by simp) rfl (by repeat' first | exact trivial | refine ⟨?_, ?_⟩) ⟨rfl, trivial, trivial⟩) ?_
        refine aw_ret ?_
        have hr := Option.some.inj h
        subst hr
        exact ret_objs (.inr rfl) [] (objs' := []) (new := []) rfl (by simp) (by simp) rfl (by repeat' first | exact trivial | refine ⟨?_, ?_⟩) rfl rfl (by repeat' first | exact trivial | refine ⟨?_, ?_⟩) (fun _ => ⟨by simp [V.flat, V.flatA, V.flatC, D.flat], flat_nil⟩) ⟨rfl, rfl, rfl⟩
      · have hc9 := not_f hc9
        have h := if_t h hc9
        refine aw_skip ?_
        refine aw_seq ?_
        refine aw_seq ?_
        refine aw_region ?_
        refine awl_val hτ rfl rfl rfl ?_
        refine awl_val hτ rfl rfl rfl ?_
        refine awl_val hτ rfl rfl rfl ?_
        refine awl_val hτ rfl rfl rfl ?_
        refine awl_val hτ rfl rfl rfl ?_
        refine awl_nil ?_
        refine aw_weak (weak_ofP [] (l := [(26, .d (.bool (!(a_.Rests == b_.Rests))))]) (objs := []) rfl (by simp) rfl (by repeat' first | exact trivial | refine ⟨?_, ?_⟩) ⟨rfl, trivial, trivial⟩) ?_
        refine aw_cond rfl (fun hc10 => ?_) (fun hc10 => ?_)
        · have hc10 := not_t hc10
          have h := if_bf h hc10
          refine aw_seq ?_
          refine aw_region ?_
          refine awl_val hτ rfl rfl rfl ?_
          refine awl_nil ?_
          refine aw_weak (weak_ofP [] (l := [(4, .d (.bool false))]) (objs := []) rfl (by simp) rfl (by repeat' first | exact trivial | refine ⟨?_, ?_⟩) ⟨rfl, trivial, trivial⟩) ?_
          refine aw_ret ?_
          have hr := Option.some.inj h
          subst hr
          exact ret_objs (.inr rfl) [] (objs' := []) (new := []) rfl (by simp) (by simp) rfl (by repeat' first | exact trivial | refine ⟨?_, ?_⟩) rfl rfl (by repeat' first | exact trivial | refine ⟨?_, ?_⟩) (fun _ => ⟨by simp [V.flat, V.flatA, V.flatC, D.flat], flat_nil⟩) ⟨rfl, rfl, rfl⟩
        · have hc10 := not_f hc10
          have h := if_bt h hc10
          refine aw_skip ?_
          refine aw_seq ?_
          refine aw_region ?_
          refine awl_val hτ rfl rfl rfl ?_
          refine awl_nil ?_
          refine aw_weak (weak_ofP [] (l := [(4, .d (.bool true))]) (objs := []) rfl (by simp) rfl (by repeat' first | exact trivial | refine ⟨?_, ?_⟩) ⟨rfl, trivial, trivial⟩) ?_
          refine aw_ret ?_
          have hr := Option.some.inj h
          subst hr
          exact ret_objs (.inr rfl) [] (objs' := []) (new := []) rfl (by simp) (by simp) rfl (by repeat' first | exact trivial | refine ⟨?_, ?_⟩) rfl rfl (by repeat' first | exact trivial | refine ⟨?_, ?_⟩) (fun _ => ⟨by simp [V.flat, V.flatA, V.flatC, D.flat], flat_nil⟩) ⟨rfl, rfl, rfl⟩
theorem laws_eqFlow_ok (n : Nat) (a_ : SFlow) (b_ : SFlow) {r : Bool} (h : m_laws_eqFlow n a_ b_ = some r) : ACall prog false 41 [.agg [.d (.sl false (a_.Voltages.map eSPhases)), .d (.sl false (a_.Currents.map eSPhases)), .d (.int .i64 a_.Rounds), .d (.bool a_.Rests)], .agg [.d (.sl false (b_.Voltages.map eSPhases)), .d (.sl false (b_.Currents.map eSPhases)), .d (.int .i64 b_.Rounds), .d (.bool b_.Rests)]] [] (fun v o new => v = .d (.bool r) ∧ o = [] ∧ new = []) := laws_eqFlow_ok_fr0 false n a_ b_ h
theorem laws_eqFlow_ok_fr (n : Nat) (a_ : SFlow) (b_ : SFlow) {r : Bool} (h : m_laws_eqFlow n a_ b_ = some r) : ACall prog true 41 [.agg [.d (.sl false (a_.Voltages.map eSPhases)), .d (.sl false (a_.Currents.map eSPhases)), .d (.int .i64 a_.Rounds), .d (.bool a_.Rests)], .agg [.d (.sl false (b_.Voltages.map eSPhases)), .d (.sl false (b_.Currents.map eSPhases)), .d (.int .i64 b_.Rounds), .d (.bool b_.Rests)]] [] (fun v o new => v = .d (.bool r) ∧ o = [] ∧ new = []) := laws_eqFlow_ok_fr0 true n a_ b_ h

def m_laws_markPhasesS_l1 (n : Nat) : Nat → List SPhases → Int → Int → Option (Int × List SPhases)
  | 0, _, _, _ => none
  | m49 + 1, v34, v35, v36 =>
    if v36 < (v34.length : Int) then
      (fconv .f64 .f32 (FloatKind.nearest .f64 v35)).bind fun x52 =>
      (fconv .f64 .f32 (4607182418800017408 : Nat)).bind fun x53 =>
      (getI v34 v36).bind fun x54 =>
      (fconv .f64 .f32 (FloatKind.nearest .f64 (w64 (v35 + (1 : Int))))).bind fun x55 =>
      (fconv .f64 .f32 (4607182418800017408 : Nat)).bind fun x56 =>
      (getI (v34.set v36.toNat (SPhases.mk (Cx.mk x52 x53) x54.B x54.C)) v36).bind fun x57 =>
      (fconv .f64 .f32 (FloatKind.nearest .f64 (w64 ((w64 (v35 + (1 : Int))) + (1 : Int))))).bind fun x58 =>
      (fconv .f64 .f32 (4607182418800017408 : Nat)).bind fun x59 =>
      (getI ((v34.set v36.toNat (SPhases.mk (Cx.mk x52 x53) x54.B x54.C)).set v36.toNat (SPhases.mk x57.A (Cx.mk x55 x56) x57.C)) v36).bind fun x60 =>
      (m_laws_markPhasesS_l1 n m49) (((v34.set v36.toNat (SPhases.mk (Cx.mk x52 x53) x54.B x54.C)).set v36.toNat (SPhases.mk x57.A (Cx.mk x55 x56) x57.C)).set v36.toNat (SPhases.mk x60.A x60.B (Cx.mk x58 x59))) (w64 ((w64 ((w64 (v35 + (1 : Int))) + (1 : Int))) + (1 : Int))) (w64 (v36 + (1 : Int)))
    else
      some (v35, v34)
def m_laws_markPhasesS (n : Nat) (a_ : List SPhases) (k_ : Int) : Option (Int × List SPhases) :=
  m_laws_markPhasesS_l1 n n a_ k_ (0 : Int)
theorem laws_markPhasesS_ok_fr0 (fr : Bool) (n : Nat) (a_ : List SPhases) (k_ : Int) {r : Int × List SPhases} (h : m_laws_markPhasesS n a_ k_ = some r) : ACall prog fr 86 [.row 0 a_.length 0 a_.length, .d (.int .i64 k_)] [.row 3 (a_.map eSPhases)] (fun v o new => v = .d (.int .i64 r.1) ∧ o = [.row 3 (r.2.map eSPhases)] ∧ new = []) := by
  refine acall_of_aw hτ func86 rfl (by simp) (by simp) ?_
  unfold m_laws_markPhasesS at h
  refine aw_seq ?_
  refine aw_region ?_
  refine awl_val hτ rfl rfl rfl ?_
  refine awl_nil ?_
  refine aw_seq ?_
  refine aw_seq ?_
  refine aw_region ?_
  refine awl_val hτ rfl rfl rfl ?_
  refine awl_nil ?_
  refine aw_block ?_
  refine aw_loop (ι := Nat × List SPhases × Int × Int) (fun (m49, v34, v35, v36) => St.of [(0, .row 0 v34.length 0 v34.length), (1, .d (.int .i64 v35)), (5, .d (.int .i64 v36))] [.row 3 (v34.map eSPhases)] f86.ntmps 1) (fun (m49, v34, v35, v36) => m_laws_markPhasesS_l1 n m49 v34 v35 v36 = some r) (fun x => x.1) (n, a_, k_, (0 : Int)) h (weak_ofP [0] (l := [(0, .row 0 a_.length 0 a_.length), (1, .d (.int .i64 k_)), (5, .d (.int .i64 (0 : Int)))]) (objs := [.row 3 (a_.map eSPhases)]) rfl (by simp) rfl (by repeat' first | exact trivial | refine ⟨?_, ?_⟩) ⟨rfl, trivial, rfl, trivial, rfl, trivial, trivial⟩) ?_
  rintro ⟨m49, v34, v35, v36⟩ h
  replace h : m_laws_markPhasesS_l1 n m49 v34 v35 v36 = some r := h
  rcases m49 with _ | m49
  · rw [m_laws_markPhasesS_l1] at h; cases h
  rw [m_laws_markPhasesS_l1] at h
  refine aw_seq ?_
  refine aw_seq ?_
  refine aw_region ?_
  refine awl_val hτ rfl rfl rfl ?_
  refine awl_val hτ rfl rfl rfl ?_
  refine awl_need hτ rfl rfl rfl (len_map _) ?_
  refine awl_val hτ rfl rfl rfl ?_
  refine awl_nil ?_
  refine aw_cond rfl (fun hc51 => ?_) (fun hc51 => ?_)
  · have h := if_t h hc51
    refine aw_skip ?_
    refine aw_seq ?_
    refine aw_block ?_
    refine aw_seq ?_
    refine aw_region ?_
    refine awl_val hτ rfl rfl rfl ?_
    refine awl_val hτ rfl rfl rfl ?_
    refine awl_val hτ rfl rfl rfl ?_
    refine awl_val hτ rfl rfl rfl ?_
    refine awl_val hτ rfl rfl rfl ?_
    refine bnd_elim h fun x52 hx52 h => ?_
    refine bnd_elim h fun x53 hx53 h => ?_
    refine awl_x rfl rfl (x_c2c hτ rfl rfl rfl rfl rfl rfl hx52 hx53) ?_
    refine bnd_elim h fun x54 hx54 h => ?_
    refine awl_need hτ rfl rfl rfl (row_need hx54) ?_
    refine awl_need hτ rfl rfl rfl (len_map _) ?_
    refine awl_weak (weak_ofP [0] (l := [(0, .row 0 v34.length 0 v34.length), (1, .d (.int .i64 v35)), (5, .d (.int .i64 v36)), (17, .d (.cx .f32 x52 x53)), (19, .eptr 0 v34.length (0 + v36.toNat) 0)]) (objs := [.row 3 (v34.map eSPhases)]) rfl (by simp) rfl (by repeat' first | exact trivial | refine ⟨?_, ?_⟩) ⟨rfl, trivial, rfl, trivial, rfl, trivial, rfl, trivial, rfl, trivial, trivial⟩) ?_
    refine awl_elemH hτ rfl rfl rfl (len_map _) (row_get hx54) (set_val (f := eSPhases) (l := v34) (i := v36) (y := (SPhases.mk (Cx.mk x52 x53) x54.B x54.C)) rfl) ?_
    refine awl_nil ?_
    refine aw_seq ?_
    refine aw_region ?_
    refine awl_val hτ rfl rfl rfl ?_
    refine awl_val hτ rfl rfl rfl ?_
    refine awl_val hτ rfl rfl rfl ?_
    refine awl_nil ?_
    refine aw_seq ?_
    refine aw_region ?_
    refine awl_val hτ rfl rfl rfl ?_
    refine awl_val hτ rfl rfl rfl ?_
    refine awl_val hτ rfl rfl rfl ?_
    refine awl_val hτ rfl rfl rfl ?_
    refine awl_val hτ rfl rfl rfl ?_
    refine bnd_elim h fun x55 hx55 h => ?_
    refine bnd_elim h fun x56 hx56 h => ?_
    refine awl_x rfl rfl (x_c2c hτ rfl rfl rfl rfl rfl rfl hx55 hx56) ?_
    refine bnd_elim h fun x57 hx57 h => ?_
    refine awl_need hτ rfl rfl rfl (row_needL hx57 (by simp)) ?_
    refine awl_need hτ rfl rfl rfl (by simp) ?_
    refine awl_weak (weak_ofP [0] (l := [(0, .row 0 ((v34.set v36.toNat (SPhases.mk (Cx.mk x52 x53) x54.B x54.C)).length) 0 ((v34.set v36.toNat (SPhases.mk (Cx.mk x52 x53) x54.B x54.C)).length)), (1, .d (.int .i64 (w64 (v35 + (1 : Int))))), (5, .d (.int .i64 v36)), (27, .d (.cx .f32 x55 x56)), (29, .eptr 0 v34.length (0 + v36.toNat) 1)]) (objs := [.row 3 ((v34.set v36.toNat (SPhases.mk (Cx.mk x52 x53) x54.B x54.C)).map eSPhases)]) rfl (by simp) rfl (by repeat' first | exact trivial | refine ⟨?_, ?_⟩) ⟨(exV_rowL rfl (by simp)), trivial, rfl, trivial, rfl, trivial, rfl, trivial, rfl, trivial, trivial⟩) ?_
    refine awl_elemH hτ rfl rfl rfl (by simp) (row_get hx57) (set_val (f := eSPhases) (l := (v34.set v36.toNat (SPhases.mk (Cx.mk x52 x53) x54.B x54.C))) (i := v36) (y := (SPhases.mk x57.A (Cx.mk x55 x56) x57.C)) rfl) ?_
    refine awl_nil ?_
    refine aw_seq ?_
    refine aw_region ?_
    refine awl_val hτ rfl rfl rfl ?_
    refine awl_val hτ rfl rfl rfl ?_
    refine awl_val hτ rfl rfl rfl ?_
    refine awl_nil ?_
    refine aw_seq ?_
    refine aw_region ?_
    refine awl_val hτ rfl rfl rfl ?_
    refine awl_val hτ rfl rfl rfl ?_
    refine awl_val hτ rfl rfl rfl ?_
    refine awl_val hτ rfl rfl rfl ?_
    refine awl_val hτ rfl rfl rfl ?_
    refine bnd_elim h fun x58 hx58 h => ?_
    refine bnd_elim h fun x59 hx59 h => ?_
    refine awl_x rfl rfl (x_c2c hτ rfl rfl rfl rfl rfl rfl hx58 hx59) ?_
    refine bnd_elim h fun x60 hx60 h => ?_
    refine awl_need hτ rfl rfl rfl (row_needL hx60 (by simp)) ?_
    refine awl_need hτ rfl rfl rfl (by simp) ?_
    refine awl_weak (weak_ofP [0] (l := [(0, .row 0 (((v34.set v36.toNat (SPhases.mk (Cx.mk x52 x53) x54.B x54.C)).set v36.toNat (SPhases.mk x57.A (Cx.mk x55 x56) x57.C)).length) 0 (((v34.set v36.toNat (SPhases.mk (Cx.mk x52 x53) x54.B x54.C)).set v36.toNat (SPhases.mk x57.A (Cx.mk x55 x56) x57.C)).length)), (1, .d (.int .i64 (w64 ((w64 (v35 + (1 : Int))) + (1 : Int))))), (5, .d (.int .i64 v36)), (37, .d (.cx .f32 x58 x59)), (39, .eptr 0 ((v34.set v36.toNat (SPhases.mk (Cx.mk x52 x53) x54.B x54.C)).length) (0 + v36.toNat) 2)]) (objs := [.row 3 (((v34.set v36.toNat (SPhases.mk (Cx.mk x52 x53) x54.B x54.C)).set v36.toNat (SPhases.mk x57.A (Cx.mk x55 x56) x57.C)).map eSPhases)]) rfl (by simp) rfl (by repeat' first | exact trivial | refine ⟨?_, ?_⟩) ⟨(exV_rowL rfl (by simp)), trivial, rfl, trivial, rfl, trivial, rfl, trivial, rfl, trivial, trivial⟩) ?_
    refine awl_elemH hτ rfl rfl rfl (by simp) (row_get hx60) (set_val (f := eSPhases) (l := ((v34.set v36.toNat (SPhases.mk (Cx.mk x52 x53) x54.B x54.C)).set v36.toNat (SPhases.mk x57.A (Cx.mk x55 x56) x57.C))) (i := v36) (y := (SPhases.mk x60.A x60.B (Cx.mk x58 x59))) rfl) ?_
    refine awl_nil ?_
    refine aw_region ?_
    refine awl_val hτ rfl rfl rfl ?_
    refine awl_val hτ rfl rfl rfl ?_
    refine awl_val hτ rfl rfl rfl ?_
    refine awl_nil ?_
    refine aw_region ?_
    refine awl_val hτ rfl rfl rfl ?_
    refine awl_val hτ rfl rfl rfl ?_
    refine awl_val hτ rfl rfl rfl ?_
    refine awl_nil ?_
    exact ⟨(m49, (((v34.set v36.toNat (SPhases.mk (Cx.mk x52 x53) x54.B x54.C)).set v36.toNat (SPhases.mk x57.A (Cx.mk x55 x56) x57.C)).set v36.toNat (SPhases.mk x60.A x60.B (Cx.mk x58 x59))), (w64 ((w64 ((w64 (v35 + (1 : Int))) + (1 : Int))) + (1 : Int))), (w64 (v36 + (1 : Int)))), h, Nat.lt_succ_self m49, (weak_ofP [0] (l := [(0, .row 0 ((((v34.set v36.toNat (SPhases.mk (Cx.mk x52 x53) x54.B x54.C)).set v36.toNat (SPhases.mk x57.A (Cx.mk x55 x56) x57.C)).set v36.toNat (SPhases.mk x60.A x60.B (Cx.mk x58 x59))).length) 0 ((((v34.set v36.toNat (SPhases.mk (Cx.mk x52 x53) x54.B x54.C)).set v36.toNat (SPhases.mk x57.A (Cx.mk x55 x56) x57.C)).set v36.toNat (SPhases.mk x60.A x60.B (Cx.mk x58 x59))).length)), (1, .d (.int .i64 (w64 ((w64 ((w64 (v35 + (1 : Int))) + (1 : Int))) + (1 : Int))))), (5, .d (.int .i64 (w64 (v36 + (1 : Int)))))]) (objs := [.row 3 ((((v34.set v36.toNat (SPhases.mk (Cx.mk x52 x53) x54.B x54.C)).set v36.toNat (SPhases.mk x57.A (Cx.mk x55 x56) x57.C)).set v36.toNat (SPhases.mk x60.A x60.B (Cx.mk x58 x59))).map eSPhases)]) rfl (by simp) rfl (by repeat' first | exact trivial | refine ⟨?_, ?_⟩) ⟨(exV_rowL rfl (by simp)), trivial, rfl, trivial, rfl, trivial, trivial⟩)⟩
  · have h := if_f h hc51
    refine aw_exit ?_
    refine aw_seq ?_
    refine aw_region ?_
    refine awl_val hτ rfl rfl rfl ?_
    refine awl_val hτ rfl rfl rfl ?_
    refine awl_nil ?_
    refine aw_weak (weak_ofP [0] (l := [(4, .d (.int .i64 v35))]) (objs := [.row 3 (v34.map eSPhases)]) rfl (by simp) rfl (by repeat' first | exact trivial | refine ⟨?_, ?_⟩) ⟨rfl, trivial, trivial⟩) ?_
    refine aw_ret ?_
    have hr := Option.some.inj h
    subst hr
    exact ret_objs (.inr rfl) [] (objs' := [.row 3 (v34.map eSPhases)]) (new := []) rfl (by simp) (by simp) rfl (by repeat' first | exact trivial | refine ⟨?_, ?_⟩) rfl rfl (by repeat' first | exact trivial | refine ⟨?_, ?_⟩) (fun _ => ⟨by simp [V.flat, V.flatA, V.flatC, D.flat], (flat_cons (flat_row eSPhases_flat _) flat_nil)⟩) ⟨rfl, rfl, rfl⟩
theorem laws_markPhasesS_ok (n : Nat) (a_ : List SPhases) (k_ : Int) {r : Int × List SPhases} (h : m_laws_markPhasesS n a_ k_ = some r) : ACall prog false 86 [.row 0 a_.length 0 a_.length, .d (.int .i64 k_)] [.row 3 (a_.map eSPhases)] (fun v o new => v = .d (.int .i64 r.1) ∧ o = [.row 3 (r.2.map eSPhases)] ∧ new = []) := laws_markPhasesS_ok_fr0 false n a_ k_ h
theorem laws_markPhasesS_ok_fr (n : Nat) (a_ : List SPhases) (k_ : Int) {r : Int × List SPhases} (h : m_laws_markPhasesS n a_ k_ = some r) : ACall prog true 86 [.row 0 a_.length 0 a_.length, .d (.int .i64 k_)] [.row 3 (a_.map eSPhases)] (fun v o new => v = .d (.int .i64 r.1) ∧ o = [.row 3 (r.2.map eSPhases)] ∧ new = []) := laws_markPhasesS_ok_fr0 true n a_ k_ h

end Go.Proofs.Ytolggocnbakokaa.AWN
