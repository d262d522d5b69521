/- Models and contracts, printed by program. -/
import Derived.Test.YtolggocnbakokaaTypes
set_option linter.unusedVariables false
set_option linter.unusedSimpArgs false
set_option linter.unusedSectionVars false
set_option maxHeartbeats 2000000
namespace Go.Proofs.Ytolggocnbakokaa.AWN
open Go Go.Proofs.Try

def eIntu8 (x : Int) : List D := [.int .u8 x]
@[simp] theorem eIntu8_len (x : Int) : (eIntu8 x).length = 1 := rfl
theorem eIntu8_flat (x : Int) : ∀ c ∈ eIntu8 x, c.flat := by simp [eIntu8, D.flat]
structure SL00Src where
  code : List Int
  at_ : Int
  seed : Int
deriving DecidableEq
def eNatf32 (x : Nat) : List D := [.fl .f32 x]
@[simp] theorem eNatf32_len (x : Nat) : (eNatf32 x).length = 1 := rfl
theorem eNatf32_flat (x : Nat) : ∀ c ∈ eNatf32 x, c.flat := by simp [eNatf32, D.flat]
structure SCurve where
  Currents : List Nat
  Times : List Nat
deriving DecidableEq

theorem ext123 {x : Nat} (hx : isnan .f32 x = false) : ExtDoes prog 123 [.d (.fl .f32 x)] (.d (.int .u32 x)) := extDoes (e := Extern.MathFloatBits.float32bits) func123 rfl rfl (by kernel_rfl) (by kernel_rfl) fun W hb H ok vals h => bits_run (fun _ => rfl) hx h
def m_laws_b10Long (n : Nat) (code_ : List Int) (more_ : List Int) : Option Bool :=
  if (code_.length : Int) > (1048576 : Int) then
    some true
  else
    some (decide ((more_.length : Int) > (1048576 : Int)))
theorem laws_b10Long_ok_fr0 (fr : Bool) (n : Nat) (code_ : List Int) (more_ : List Int) {r : Bool} (h : m_laws_b10Long n code_ more_ = some r) : ACall prog fr 8 [.d (.sl false (code_.map eIntu8)), .d (.sl false (more_.map eIntu8))] [] (fun v o new => v = .d (.bool r) ∧ o = [] ∧ new = []) := by
  refine acall_of_aw hτ func8 rfl (by simp) (by simp) ?_
  unfold m_laws_b10Long at h
  refine aw_seq ?_
  refine aw_region ?_
  refine awl_val hτ rfl rfl rfl ?_
  refine awl_nil ?_
  refine aw_seq ?_
  refine aw_region ?_
  refine awl_val hτ rfl rfl rfl ?_
  refine awl_val hτ (v := .d (.int .i64 (code_.length : Int))) rfl rfl (Eq.trans rfl (or_len (f := eIntu8) code_)) ?_
  refine awl_val hτ rfl rfl rfl ?_
  refine awl_val hτ rfl rfl rfl ?_
  refine awl_split 8 rfl (fun hb3 => ?_) (fun hb3 => ?_)
  · have h := if_t h hb3
    refine awl_skip rfl rfl ?_
    refine awl_skip rfl rfl ?_
    refine awl_skip rfl rfl ?_
    refine awl_val hτ rfl rfl rfl ?_
    refine awl_val hτ rfl rfl rfl ?_
    refine awl_nil ?_
    refine aw_weak (weak_ofP [] (l := [(4, .d (.bool true))]) (objs := []) rfl (by simp) rfl (by repeat' first | exact trivial | refine ⟨?_, ?_⟩) ⟨rfl, trivial, trivial⟩) ?_
    refine aw_ret ?_
    have hr := Option.some.inj h
    subst hr
    exact ret_objs (.inr rfl) [] (objs' := []) (new := []) rfl (by simp) (by simp) rfl (by repeat' first | exact trivial | refine ⟨?_, ?_⟩) rfl rfl (by repeat' first | exact trivial | refine ⟨?_, ?_⟩) (fun _ => ⟨by simp [V.flat, V.flatA, V.flatC, D.flat], flat_nil⟩) ⟨rfl, rfl, rfl⟩
  · have h := if_f h hb3
    refine awl_val hτ rfl rfl rfl ?_
    refine awl_val hτ (v := .d (.int .i64 (more_.length : Int))) rfl rfl (Eq.trans rfl (or_len (f := eIntu8) more_)) ?_
    refine awl_val hτ rfl rfl rfl ?_
    refine awl_val hτ rfl rfl rfl ?_
    refine awl_val hτ rfl rfl rfl ?_
    refine awl_nil ?_
    refine aw_weak (weak_ofP [] (l := [(4, .d (.bool (decide ((more_.length : Int) > (1048576 : Int)))))]) (objs := []) rfl (by simp) rfl (by repeat' first | exact trivial | refine ⟨?_, ?_⟩) ⟨rfl, trivial, trivial⟩) ?_
    refine aw_ret ?_
    have hr := Option.some.inj h
    subst hr
    exact ret_objs (.inr rfl) [] (objs' := []) (new := []) rfl (by simp) (by simp) rfl (by repeat' first | exact trivial | refine ⟨?_, ?_⟩) rfl rfl (by repeat' first | exact trivial | refine ⟨?_, ?_⟩) (fun _ => ⟨by simp [V.flat, V.flatA, V.flatC, D.flat], flat_nil⟩) ⟨rfl, rfl, rfl⟩
theorem laws_b10Long_ok (n : Nat) (code_ : List Int) (more_ : List Int) {r : Bool} (h : m_laws_b10Long n code_ more_ = some r) : ACall prog false 8 [.d (.sl false (code_.map eIntu8)), .d (.sl false (more_.map eIntu8))] [] (fun v o new => v = .d (.bool r) ∧ o = [] ∧ new = []) := laws_b10Long_ok_fr0 false n code_ more_ h
theorem laws_b10Long_ok_fr (n : Nat) (code_ : List Int) (more_ : List Int) {r : Bool} (h : m_laws_b10Long n code_ more_ = some r) : ACall prog true 8 [.d (.sl false (code_.map eIntu8)), .d (.sl false (more_.map eIntu8))] [] (fun v o new => v = .d (.bool r) ∧ o = [] ∧ new = []) := laws_b10Long_ok_fr0 true n code_ more_ h

def m_spec_l00From (n : Nat) (code_ : List Int) : Option SL00Src :=
  some (SL00Src.mk code_ (0 : Int) (0 : Int))
theorem spec_l00From_ok (n : Nat) (code_ : List Int) {r : SL00Src} (h : m_spec_l00From n code_ = some r) : ACall prog false 44 [.d (.sl false (code_.map eIntu8))] [] (fun v o new => v = .ptr 0 0 ∧ o = [] ∧ new = [.box [.d (.sl false (r.code.map eIntu8)), .d (.int .i64 r.at_), .d (.int .u64 r.seed)]]) := by
  refine acall_of_aw hτ func44 rfl (by simp) (by simp) ?_
  unfold m_spec_l00From at h
  refine aw_seq ?_
  refine aw_region ?_
  refine awl_val hτ rfl rfl rfl ?_
  refine awl_nil ?_
  refine aw_seq ?_
  refine aw_region ?_
  refine awl_val hτ rfl rfl rfl ?_
  refine awl_val hτ rfl rfl rfl ?_
  refine awl_valH hτ rfl rfl rfl ?_
  refine awl_val hτ rfl rfl rfl ?_
  refine awl_nil ?_
  refine aw_weak (weak_ofP [0] (l := [(2, .ptr 0 0)]) (objs := [.box [.d (.sl false (code_.map eIntu8)), .d (.int .i64 (0 : Int)), .d (.int .u64 (0 : Int))]]) rfl (by simp) rfl (by repeat' first | exact trivial | refine ⟨?_, ?_⟩) ⟨rfl, trivial, trivial⟩) ?_
  refine aw_ret ?_
  have hr := Option.some.inj h
  subst hr
  exact ret_objs (.inr rfl) [0] (objs' := []) (new := [.box [.d (.sl false (code_.map eIntu8)), .d (.int .i64 (0 : Int)), .d (.int .u64 (0 : Int))]]) rfl (by simp) (by simp) rfl (by repeat' first | exact trivial | refine ⟨?_, ?_⟩) rfl rfl (by repeat' first | exact trivial | refine ⟨?_, ?_⟩) (fun h => nomatch h) ⟨rfl, rfl, rfl⟩

def m_spec_l00Src_next_j1 (n : Nat) (s_ : SL00Src) (v5 : Int) : Option (Int × SL00Src) :=
  if (w64 (s_.at_ + (1 : Int))) ≤ (s_.code.length : Int) then
    some (v5, (SL00Src.mk s_.code (w64 (s_.at_ + (1 : Int))) (IntKind.wrap .u64 ((IntKind.wrap .u64 ((IntKind.wrap .u64 (s_.seed * (6364136223846793005 : Int))) + (IntKind.wrap .u64 (v5)))) + (1442695040888963407 : Int)))))
  else
    some ((w64 ((ibits .and .u64 ((IntKind.wrap .u64 ((IntKind.wrap .u64 ((IntKind.wrap .u64 (s_.seed * (6364136223846793005 : Int))) + (IntKind.wrap .u64 (v5)))) + (1442695040888963407 : Int))).fdiv (2 ^ min (40 : Int).toNat (IntKind.bits .u64))) (255 : Int)))), (SL00Src.mk s_.code (w64 (s_.at_ + (1 : Int))) (IntKind.wrap .u64 ((IntKind.wrap .u64 ((IntKind.wrap .u64 (s_.seed * (6364136223846793005 : Int))) + (IntKind.wrap .u64 (v5)))) + (1442695040888963407 : Int)))))
def m_spec_l00Src_next (n : Nat) (s_ : SL00Src) : Option (Int × SL00Src) :=
  if s_.at_ < (s_.code.length : Int) then
    (getI s_.code s_.at_).bind fun x9 =>
    m_spec_l00Src_next_j1 n s_ (w64 (x9))
  else
    m_spec_l00Src_next_j1 n s_ (0 : Int)
theorem spec_l00Src_next_ok (n : Nat) (s_ : SL00Src) {r : Int × SL00Src} (h : m_spec_l00Src_next n s_ = some r) : ACall prog false 95 [.ptr 0 0] [.box [.d (.sl false (s_.code.map eIntu8)), .d (.int .i64 s_.at_), .d (.int .u64 s_.seed)]] (fun v o new => v = .d (.int .i64 r.1) ∧ o = [.box [.d (.sl false (r.2.code.map eIntu8)), .d (.int .i64 r.2.at_), .d (.int .u64 r.2.seed)]] ∧ new = []) := by
  refine acall_of_aw hτ func95 rfl (by simp) (by simp) ?_
  unfold m_spec_l00Src_next at h
  refine aw_seq ?_
  refine aw_region ?_
  refine awl_val hτ rfl rfl rfl ?_
  refine awl_nil ?_
  refine aw_seq ?_
  refine aw_region ?_
  refine awl_val hτ rfl rfl rfl ?_
  refine awl_nil ?_
  refine aw_hk1 (ι := Int) (fun v5 => St.of [(0, .ptr 0 0), (3, .d (.int .i64 v5))] [.box [.d (.sl false (s_.code.map eIntu8)), .d (.int .i64 s_.at_), .d (.int .u64 s_.seed)]] f95.ntmps 1) (fun v5 => m_spec_l00Src_next_j1 n s_ v5 = some r) ?_ (fun hk7 => ?_)
  · rintro v5 h
    replace h : m_spec_l00Src_next_j1 n s_ v5 = some r := h
    unfold m_spec_l00Src_next_j1 at h
    refine aw_seq ?_
    refine aw_region ?_
    refine awl_val hτ rfl rfl rfl ?_
    refine awl_val hτ rfl rfl rfl ?_
    refine awl_val hτ rfl rfl rfl ?_
    refine awl_val hτ rfl rfl rfl ?_
    refine awl_val hτ rfl rfl rfl ?_
    refine awl_val hτ rfl rfl rfl ?_
    refine awl_val hτ rfl rfl rfl ?_
    refine awl_valH hτ rfl rfl rfl ?_
    refine awl_nil ?_
    refine aw_seq ?_
    refine aw_weak (weak_ofP [0] (l := [(0, .ptr 0 0), (3, .d (.int .i64 v5))]) (objs := [.box [.d (.sl false (s_.code.map eIntu8)), .d (.int .i64 (w64 (s_.at_ + (1 : Int)))), .d (.int .u64 s_.seed)]]) rfl (by simp) rfl (by repeat' first | exact trivial | refine ⟨?_, ?_⟩) ⟨rfl, trivial, rfl, trivial, trivial⟩) ?_
    refine aw_region ?_
    refine awl_val hτ rfl rfl rfl ?_
    refine awl_val hτ rfl rfl rfl ?_
    refine awl_val hτ rfl rfl rfl ?_
    refine awl_val hτ rfl rfl rfl ?_
    refine awl_val hτ rfl rfl rfl ?_
    refine awl_val hτ rfl rfl rfl ?_
    refine awl_val hτ rfl rfl rfl ?_
    refine awl_val hτ rfl rfl rfl ?_
    refine awl_val hτ rfl rfl rfl ?_
    refine awl_val hτ rfl rfl rfl ?_
    refine awl_val hτ rfl rfl rfl ?_
    refine awl_val hτ rfl rfl rfl ?_
    refine awl_weak (weak_ofP [0] (l := [(0, .ptr 0 0), (3, .d (.int .i64 v5)), (41, .d (.int .u64 (IntKind.wrap .u64 ((IntKind.wrap .u64 ((IntKind.wrap .u64 (s_.seed * (6364136223846793005 : Int))) + (IntKind.wrap .u64 (v5)))) + (1442695040888963407 : Int))))), (43, .ptr 0 2)]) (objs := [.box [.d (.sl false (s_.code.map eIntu8)), .d (.int .i64 (w64 (s_.at_ + (1 : Int)))), .d (.int .u64 s_.seed)]]) rfl (by simp) rfl (by repeat' first | exact trivial | refine ⟨?_, ?_⟩) ⟨rfl, trivial, rfl, trivial, rfl, trivial, rfl, trivial, trivial⟩) ?_
    refine awl_valH hτ rfl rfl rfl ?_
    refine awl_nil ?_
    refine aw_seq ?_
    refine aw_seq ?_
    refine any_start ?_
    refine any_val hτ [] 0 rfl rfl rfl rfl rfl ?_
    refine any_val hτ [] 1 rfl rfl rfl rfl rfl ?_
    refine any_val hτ [0] 2 rfl rfl rfl rfl rfl ?_
    refine any_val hτ [0] 3 rfl rfl rfl rfl rfl ?_
    refine any_val hτ [] 4 rfl rfl rfl rfl rfl ?_
    refine any_val hτ [] 5 rfl rfl rfl rfl rfl ?_
    refine any_val hτ [0] 6 rfl rfl rfl rfl rfl ?_
    refine any_val hτ [0] 7 rfl rfl rfl rfl rfl ?_
    refine any_val hτ (v := .d (.int .i64 (s_.code.length : Int))) [] 8 rfl rfl rfl rfl (Eq.trans rfl (or_len (f := eIntu8) s_.code)) ?_
    refine any_val hτ [] 9 rfl rfl rfl rfl rfl ?_
    refine any_done mixed (by kernel_rfl) ?_
    refine aw_weak (weak_ofP [0] (l := [(0, .ptr 0 0), (3, .d (.int .i64 v5)), (53, .d (.bool (decide ((w64 (s_.at_ + (1 : Int))) ≤ (s_.code.length : Int)))))]) (objs := [.box [.d (.sl false (s_.code.map eIntu8)), .d (.int .i64 (w64 (s_.at_ + (1 : Int)))), .d (.int .u64 (IntKind.wrap .u64 ((IntKind.wrap .u64 ((IntKind.wrap .u64 (s_.seed * (6364136223846793005 : Int))) + (IntKind.wrap .u64 (v5)))) + (1442695040888963407 : Int))))]]) rfl (by simp) rfl (by repeat' first | exact trivial | refine ⟨?_, ?_⟩) ⟨rfl, trivial, rfl, trivial, rfl, trivial, trivial⟩) ?_
    refine aw_cond rfl (fun hc6 => ?_) (fun hc6 => ?_)
    · have h := if_t h hc6
      refine aw_seq ?_
      refine aw_region ?_
      refine awl_val hτ rfl rfl rfl ?_
      refine awl_val hτ rfl rfl rfl ?_
      refine awl_nil ?_
      refine aw_weak (weak_ofP [0] (l := [(2, .d (.int .i64 v5))]) (objs := [.box [.d (.sl false (s_.code.map eIntu8)), .d (.int .i64 (w64 (s_.at_ + (1 : Int)))), .d (.int .u64 (IntKind.wrap .u64 ((IntKind.wrap .u64 ((IntKind.wrap .u64 (s_.seed * (6364136223846793005 : Int))) + (IntKind.wrap .u64 (v5)))) + (1442695040888963407 : Int))))]]) rfl (by simp) rfl (by repeat' first | exact trivial | refine ⟨?_, ?_⟩) ⟨rfl, trivial, trivial⟩) ?_
      refine aw_ret ?_
      have hr := Option.some.inj h
      subst hr
      exact ret_objs (.inr rfl) [] (objs' := [.box [.d (.sl false (s_.code.map eIntu8)), .d (.int .i64 (w64 (s_.at_ + (1 : Int)))), .d (.int .u64 (IntKind.wrap .u64 ((IntKind.wrap .u64 ((IntKind.wrap .u64 (s_.seed * (6364136223846793005 : Int))) + (IntKind.wrap .u64 (v5)))) + (1442695040888963407 : Int))))]]) (new := []) rfl (by simp) (by simp) rfl (by repeat' first | exact trivial | refine ⟨?_, ?_⟩) rfl rfl (by repeat' first | exact trivial | refine ⟨?_, ?_⟩) (fun h => nomatch h) ⟨rfl, rfl, rfl⟩
    · have h := if_f h hc6
      refine aw_skip ?_
      refine aw_seq ?_
      refine aw_region ?_
      refine awl_val hτ rfl rfl rfl ?_
      refine awl_val hτ rfl rfl rfl ?_
      refine awl_val hτ rfl rfl rfl ?_
      refine awl_val hτ rfl rfl rfl ?_
      refine awl_need hτ rfl rfl rfl (by decide) ?_
      refine awl_val hτ rfl rfl rfl ?_
      refine awl_val hτ rfl rfl rfl ?_
      refine awl_val hτ rfl rfl rfl ?_
      refine awl_nil ?_
      refine aw_weak (weak_ofP [0] (l := [(2, .d (.int .i64 (w64 ((ibits .and .u64 ((IntKind.wrap .u64 ((IntKind.wrap .u64 ((IntKind.wrap .u64 (s_.seed * (6364136223846793005 : Int))) + (IntKind.wrap .u64 (v5)))) + (1442695040888963407 : Int))).fdiv (2 ^ min (40 : Int).toNat (IntKind.bits .u64))) (255 : Int))))))]) (objs := [.box [.d (.sl false (s_.code.map eIntu8)), .d (.int .i64 (w64 (s_.at_ + (1 : Int)))), .d (.int .u64 (IntKind.wrap .u64 ((IntKind.wrap .u64 ((IntKind.wrap .u64 (s_.seed * (6364136223846793005 : Int))) + (IntKind.wrap .u64 (v5)))) + (1442695040888963407 : Int))))]]) rfl (by simp) rfl (by repeat' first | exact trivial | refine ⟨?_, ?_⟩) ⟨rfl, trivial, trivial⟩) ?_
      refine aw_ret ?_
      have hr := Option.some.inj h
      subst hr
      exact ret_objs (.inr rfl) [] (objs' := [.box [.d (.sl false (s_.code.map eIntu8)), .d (.int .i64 (w64 (s_.at_ + (1 : Int)))), .d (.int .u64 (IntKind.wrap .u64 ((IntKind.wrap .u64 ((IntKind.wrap .u64 (s_.seed * (6364136223846793005 : Int))) + (IntKind.wrap .u64 (v5)))) + (1442695040888963407 : Int))))]]) (new := []) rfl (by simp) (by simp) rfl (by repeat' first | exact trivial | refine ⟨?_, ?_⟩) rfl rfl (by repeat' first | exact trivial | refine ⟨?_, ?_⟩) (fun h => nomatch h) ⟨rfl, rfl, rfl⟩
  · refine aw_seq ?_
    refine aw_seq ?_
    refine any_start ?_
    refine any_val hτ [] 0 rfl rfl rfl rfl rfl ?_
    refine any_val hτ [] 1 rfl rfl rfl rfl rfl ?_
    refine any_val hτ [0] 2 rfl rfl rfl rfl rfl ?_
    refine any_val hτ [0] 3 rfl rfl rfl rfl rfl ?_
    refine any_val hτ [] 4 rfl rfl rfl rfl rfl ?_
    refine any_val hτ [] 5 rfl rfl rfl rfl rfl ?_
    refine any_val hτ [0] 6 rfl rfl rfl rfl rfl ?_
    refine any_val hτ [0] 7 rfl rfl rfl rfl rfl ?_
    refine any_val hτ (v := .d (.int .i64 (s_.code.length : Int))) [] 8 rfl rfl rfl rfl (Eq.trans rfl (or_len (f := eIntu8) s_.code)) ?_
    refine any_val hτ [] 9 rfl rfl rfl rfl rfl ?_
    refine any_done mixed (by kernel_rfl) ?_
    refine aw_weak (weak_ofP [0] (l := [(0, .ptr 0 0), (3, .d (.int .i64 (0 : Int))), (13, .d (.bool (decide (s_.at_ < (s_.code.length : Int)))))]) (objs := [.box [.d (.sl false (s_.code.map eIntu8)), .d (.int .i64 s_.at_), .d (.int .u64 s_.seed)]]) rfl (by simp) rfl (by repeat' first | exact trivial | refine ⟨?_, ?_⟩) ⟨rfl, trivial, rfl, trivial, rfl, trivial, trivial⟩) ?_
    refine aw_cond rfl (fun hc8 => ?_) (fun hc8 => ?_)
    · have h := if_t h hc8
      refine any_start ?_
      refine any_val hτ [] 0 rfl rfl rfl rfl rfl ?_
      refine any_val hτ [] 1 rfl rfl rfl rfl rfl ?_
      refine any_val hτ [0] 2 rfl rfl rfl rfl rfl ?_
      refine any_val hτ [0] 3 rfl rfl rfl rfl rfl ?_
      refine any_val hτ [] 4 rfl rfl rfl rfl rfl ?_
      refine any_val hτ [] 5 rfl rfl rfl rfl rfl ?_
      refine any_val hτ [0] 6 rfl rfl rfl rfl rfl ?_
      refine any_val hτ [0] 7 rfl rfl rfl rfl rfl ?_
      refine bnd_elim h fun x9 hx9 h => ?_
      refine any_elem hτ [] 8 rfl rfl rfl rfl rfl (getI_some hx9).1 (map_getI hx9) rfl ?_
      refine any_val hτ [] 9 rfl rfl rfl rfl rfl ?_
      refine any_val hτ [] 10 rfl rfl rfl rfl rfl ?_
      refine any_val hτ [] 11 rfl rfl rfl rfl rfl ?_
      refine any_done mixed (by kernel_rfl) ?_
      refine aw_weak (weak_ofP [0] (l := [(0, .ptr 0 0), (3, .d (.int .i64 (w64 (x9))))]) (objs := [.box [.d (.sl false (s_.code.map eIntu8)), .d (.int .i64 s_.at_), .d (.int .u64 s_.seed)]]) rfl (by simp) rfl (by repeat' first | exact trivial | refine ⟨?_, ?_⟩) ⟨rfl, trivial, rfl, trivial, trivial⟩) ?_
      exact hk7 (w64 (x9)) h
    · have h := if_f h hc8
      refine aw_skip ?_
      refine aw_weak (weak_ofP [0] (l := [(0, .ptr 0 0), (3, .d (.int .i64 (0 : Int)))]) (objs := [.box [.d (.sl false (s_.code.map eIntu8)), .d (.int .i64 s_.at_), .d (.int .u64 s_.seed)]]) rfl (by simp) rfl (by repeat' first | exact trivial | refine ⟨?_, ?_⟩) ⟨rfl, trivial, rfl, trivial, trivial⟩) ?_
      exact hk7 (0 : Int) h

def m_spec_l00Src_pick_j1 (n : Nat) (n_ : Int) (v15 : List Int) (v16 : Int) (v17 : Int) (v18 : Int) : Option (Int × SL00Src) :=
  grd (n_ ≠ 0) <|
  some ((v18.tmod n_), (SL00Src.mk v15 v16 v17))
def m_spec_l00Src_pick (n : Nat) (s_ : SL00Src) (n_ : Int) : Option (Int × SL00Src) :=
  if n_ ≤ (1 : Int) then
    some ((0 : Int), s_)
  else
    (m_spec_l00Src_next n s_).bind fun x9 =>
    if n_ > (200 : Int) then
      (m_spec_l00Src_next n x9.2).bind fun x22 =>
      m_spec_l00Src_pick_j1 n n_ x22.2.code x22.2.at_ x22.2.seed (w64 ((w64 (x9.1 * (256 : Int))) + x22.1))
    else
      m_spec_l00Src_pick_j1 n n_ x9.2.code x9.2.at_ x9.2.seed x9.1
theorem spec_l00Src_pick_ok (n : Nat) (s_ : SL00Src) (n_ : Int) {r : Int × SL00Src} (h : m_spec_l00Src_pick n s_ n_ = some r) : ACall prog false 52 [.ptr 0 0, .d (.int .i64 n_)] [.box [.d (.sl false (s_.code.map eIntu8)), .d (.int .i64 s_.at_), .d (.int .u64 s_.seed)]] (fun v o new => v = .d (.int .i64 r.1) ∧ o = [.box [.d (.sl false (r.2.code.map eIntu8)), .d (.int .i64 r.2.at_), .d (.int .u64 r.2.seed)]] ∧ new = []) := by
  refine acall_of_aw hτ func52 rfl (by simp) (by simp) ?_
  unfold m_spec_l00Src_pick at h
  refine aw_seq ?_
  refine aw_region ?_
  refine awl_val hτ rfl rfl rfl ?_
  refine awl_nil ?_
  refine aw_seq ?_
  refine aw_seq ?_
  refine aw_region ?_
  refine awl_val hτ rfl rfl rfl ?_
  refine awl_val hτ rfl rfl rfl ?_
  refine awl_nil ?_
  refine aw_cond rfl (fun hc8 => ?_) (fun hc8 => ?_)
  · have h := if_t h hc8
    refine aw_seq ?_
    refine aw_region ?_
    refine awl_val hτ rfl rfl rfl ?_
    refine awl_nil ?_
    refine aw_weak (weak_ofP [0] (l := [(4, .d (.int .i64 (0 : Int)))]) (objs := [.box [.d (.sl false (s_.code.map eIntu8)), .d (.int .i64 s_.at_), .d (.int .u64 s_.seed)]]) rfl (by simp) rfl (by repeat' first | exact trivial | refine ⟨?_, ?_⟩) ⟨rfl, trivial, trivial⟩) ?_
    refine aw_ret ?_
    have hr := Option.some.inj h
    subst hr
    exact ret_objs (.inr rfl) [] (objs' := [.box [.d (.sl false (s_.code.map eIntu8)), .d (.int .i64 s_.at_), .d (.int .u64 s_.seed)]]) (new := []) rfl (by simp) (by simp) rfl (by repeat' first | exact trivial | refine ⟨?_, ?_⟩) rfl rfl (by repeat' first | exact trivial | refine ⟨?_, ?_⟩) (fun h => nomatch h) ⟨rfl, rfl, rfl⟩
  · have h := if_f h hc8
    refine aw_skip ?_
    refine aw_seq ?_
    refine aw_region ?_
    refine awl_val hτ rfl rfl rfl ?_
    refine bnd_elim h fun x9 hx9 h => ?_
    refine awl_callP hτ false [0] rfl rfl rfl (enterOk func95 rfl rfl) rfl rfl (by simp) ⟨trivial, trivial⟩ (by repeat' first | exact trivial | refine ⟨?_, ?_⟩) (spec_l00Src_next_ok n s_ hx9) ?_
    rintro r0 o0 n0 ⟨rfl, rfl, rfl⟩ -
    refine awl_val hτ rfl rfl rfl ?_
    refine awl_nil ?_
    refine aw_hk1 (ι := List Int × Int × Int × Int) (fun (v15, v16, v17, v18) => St.of [(1, .d (.int .i64 n_)), (5, .d (.int .i64 v18))] [.box [.d (.sl false (v15.map eIntu8)), .d (.int .i64 v16), .d (.int .u64 v17)]] f52.ntmps 1) (fun (v15, v16, v17, v18) => m_spec_l00Src_pick_j1 n n_ v15 v16 v17 v18 = some r) ?_ (fun hk20 => ?_)
    · rintro ⟨v15, v16, v17, v18⟩ h
      replace h : m_spec_l00Src_pick_j1 n n_ v15 v16 v17 v18 = some r := h
      unfold m_spec_l00Src_pick_j1 at h
      refine aw_seq ?_
      refine aw_region ?_
      refine awl_val hτ rfl rfl rfl ?_
      refine awl_val hτ rfl rfl rfl ?_
      refine grd_elim h fun hg19 h => ?_
      refine awl_need hτ rfl rfl rfl hg19 ?_
      refine awl_val hτ rfl rfl rfl ?_
      refine awl_nil ?_
      refine aw_weak (weak_ofP [0] (l := [(4, .d (.int .i64 (v18.tmod n_)))]) (objs := [.box [.d (.sl false (v15.map eIntu8)), .d (.int .i64 v16), .d (.int .u64 v17)]]) rfl (by simp) rfl (by repeat' first | exact trivial | refine ⟨?_, ?_⟩) ⟨rfl, trivial, trivial⟩) ?_
      refine aw_ret ?_
      have hr := Option.some.inj h
      subst hr
      exact ret_objs (.inr rfl) [] (objs' := [.box [.d (.sl false (v15.map eIntu8)), .d (.int .i64 v16), .d (.int .u64 v17)]]) (new := []) rfl (by simp) (by simp) rfl (by repeat' first | exact trivial | refine ⟨?_, ?_⟩) rfl rfl (by repeat' first | exact trivial | refine ⟨?_, ?_⟩) (fun h => nomatch h) ⟨rfl, rfl, rfl⟩
    · refine aw_seq ?_
      refine aw_seq ?_
      refine aw_weak (weak_ofP [0] (l := [(0, .ptr 0 0), (1, .d (.int .i64 n_)), (5, .d (.int .i64 x9.1))]) (objs := [.box [.d (.sl false (x9.2.code.map eIntu8)), .d (.int .i64 x9.2.at_), .d (.int .u64 x9.2.seed)]]) rfl (by simp) rfl (by repeat' first | exact trivial | refine ⟨?_, ?_⟩) ⟨rfl, trivial, rfl, trivial, rfl, trivial, trivial⟩) ?_
      refine aw_region ?_
      refine awl_val hτ rfl rfl rfl ?_
      refine awl_val hτ rfl rfl rfl ?_
      refine awl_nil ?_
      refine aw_cond rfl (fun hc21 => ?_) (fun hc21 => ?_)
      · have h := if_t h hc21
        refine aw_region ?_
        refine awl_val hτ rfl rfl rfl ?_
        refine awl_val hτ rfl rfl rfl ?_
        refine awl_val hτ rfl rfl rfl ?_
        refine bnd_elim h fun x22 hx22 h => ?_
        refine awl_callP hτ false [0] rfl rfl rfl (enterOk func95 rfl rfl) rfl rfl (by simp) ⟨trivial, trivial⟩ (by repeat' first | exact trivial | refine ⟨?_, ?_⟩) (spec_l00Src_next_ok n x9.2 hx22) ?_
        rintro r0 o0 n0 ⟨rfl, rfl, rfl⟩ -
        refine awl_val hτ rfl rfl rfl ?_
        refine awl_val hτ rfl rfl rfl ?_
        refine awl_nil ?_
        refine aw_weak (weak_ofP [0] (l := [(1, .d (.int .i64 n_)), (5, .d (.int .i64 (w64 ((w64 (x9.1 * (256 : Int))) + x22.1))))]) (objs := [.box [.d (.sl false (x22.2.code.map eIntu8)), .d (.int .i64 x22.2.at_), .d (.int .u64 x22.2.seed)]]) rfl (by simp) rfl (by repeat' first | exact trivial | refine ⟨?_, ?_⟩) ⟨rfl, trivial, rfl, trivial, trivial⟩) ?_
        exact hk20 (x22.2.code, x22.2.at_, x22.2.seed, (w64 ((w64 (x9.1 * (256 : Int))) + x22.1))) h
      · have h := if_f h hc21
        refine aw_skip ?_
        refine aw_weak (weak_ofP [0] (l := [(1, .d (.int .i64 n_)), (5, .d (.int .i64 x9.1))]) (objs := [.box [.d (.sl false (x9.2.code.map eIntu8)), .d (.int .i64 x9.2.at_), .d (.int .u64 x9.2.seed)]]) rfl (by simp) rfl (by repeat' first | exact trivial | refine ⟨?_, ?_⟩) ⟨rfl, trivial, rfl, trivial, trivial⟩) ?_
        exact hk20 (x9.2.code, x9.2.at_, x9.2.seed, x9.1) h

def m_spec_l07DrawOk_j1 (n : Nat) (v63 : List Int) (v64 : Int) (v65 : Int) (v66 : List Nat) (v67 : List Nat) (v68 : List Nat) (v69 : List Nat) : Option (SCurve × SL00Src) :=
  some ((SCurve.mk v68 v69), (SL00Src.mk v63 v64 v65))
def m_spec_l07DrawOk_l2 (n : Nat) : Nat → List Int → Int → Int → List Nat → List Nat → List Nat → List Nat → Nat → Nat → Int → Option (SCurve × SL00Src)
  | 0, _, _, _, _, _, _, _, _, _, _ => none
  | m100 + 1, v76, v77, v78, v79, v80, v81, v82, v83, v84, v85 =>
    if v85 > (0 : Int) then
      grd (room (v81.length + 1) 4) <|
      grd (room (v82.length + 1) 4) <|
      (m_spec_l00Src_pick n (SL00Src.mk v76 v77 v78) (8 : Int)).bind fun x105 =>
      (m_spec_l00Src_pick n x105.2 (8 : Int)).bind fun x106 =>
      (m_spec_l07DrawOk_l2 n m100) x106.2.code x106.2.at_ x106.2.seed v79 v80 (v81 ++ [v83]) (v82 ++ [v84]) (farith .add .f32 v83 (farith .quo .f32 (FloatKind.nearest .f32 (w64 ((1 : Int) + x105.1))) (1082130432 : Nat))) (farith .sub .f32 v84 (farith .quo .f32 (FloatKind.nearest .f32 x106.1) (1082130432 : Nat))) (w64 (v85 - (1 : Int)))
    else
      m_spec_l07DrawOk_j1 n v76 v77 v78 v79 v80 v81 v82
def m_spec_l07DrawOk (n : Nat) (s_ : SL00Src) : Option (SCurve × SL00Src) :=
  (m_spec_l00Src_pick n s_ (8 : Int)).bind fun x32 =>
  (m_spec_l00Src_pick n x32.2 (40 : Int)).bind fun x33 =>
  (m_spec_l00Src_pick n x33.2 (4 : Int)).bind fun x71 =>
  m_spec_l07DrawOk_l2 n n x71.2.code x71.2.at_ x71.2.seed ([] : List Nat) ([] : List Nat) ([] : List Nat) ([] : List Nat) (farith .quo .f32 (FloatKind.nearest .f32 (w64 ((1 : Int) + x32.1))) (1082130432 : Nat)) (farith .quo .f32 (FloatKind.nearest .f32 (w64 ((40 : Int) + x33.1))) (1082130432 : Nat)) (w64 ((2 : Int) + x71.1))
theorem spec_l07DrawOk_ok (n : Nat) (s_ : SL00Src) {r : SCurve × SL00Src} (h : m_spec_l07DrawOk n s_ = some r) : ACall prog false 64 [.ptr 0 0] [.box [.d (.sl false (s_.code.map eIntu8)), .d (.int .i64 s_.at_), .d (.int .u64 s_.seed)]] (fun v o new => v = .agg [.row 1 r.1.Currents.length 0 r.1.Currents.length, .row 2 r.1.Times.length 0 r.1.Times.length] ∧ o = [.box [.d (.sl false (r.2.code.map eIntu8)), .d (.int .i64 r.2.at_), .d (.int .u64 r.2.seed)]] ∧ new = [.row 1 (r.1.Currents.map eNatf32), .row 1 (r.1.Times.map eNatf32)]) := by
  refine acall_of_aw hτ func64 rfl (by simp) (by simp) ?_
  unfold m_spec_l07DrawOk at h
  refine aw_seq ?_
  refine aw_region ?_
  refine awl_valH hτ rfl rfl rfl ?_
  refine awl_nil ?_
  refine aw_seq ?_
  refine aw_region ?_
  refine awl_val hτ rfl rfl rfl ?_
  refine awl_valH hτ rfl rfl rfl ?_
  refine awl_valH hτ rfl rfl rfl ?_
  refine awl_nil ?_
  refine aw_seq ?_
  refine aw_region ?_
  refine awl_val hτ rfl rfl rfl ?_
  refine bnd_elim h fun x32 hx32 h => ?_
  refine awl_callP hτ false [0] rfl rfl rfl (enterOk func52 rfl rfl) rfl rfl (by simp) ⟨trivial, trivial, trivial⟩ (by repeat' first | exact trivial | refine ⟨?_, ?_⟩) (spec_l00Src_pick_ok n s_ (8 : Int) hx32) ?_
  rintro r0 o0 n0 ⟨rfl, rfl, rfl⟩ -
  refine awl_val hτ rfl rfl rfl ?_
  refine awl_val hτ rfl rfl rfl ?_
  refine awl_val hτ rfl rfl rfl ?_
  refine awl_val hτ rfl rfl rfl ?_
  refine awl_nil ?_
  refine aw_seq ?_
  refine aw_weak (weak_ofP [0, 1, 2] (l := [(0, .ptr 0 0), (2, .ptr 1 0), (3, .ptr 2 0), (4, .d (.fl .f32 (farith .quo .f32 (FloatKind.nearest .f32 (w64 ((1 : Int) + x32.1))) (1082130432 : Nat))))]) (objs := [.box [.d (.sl false (x32.2.code.map eIntu8)), .d (.int .i64 x32.2.at_), .d (.int .u64 x32.2.seed)], .box [.d (.nils), .d (.nils)], .box [.d (.nils), .d (.nils)]]) rfl (by simp) rfl (by repeat' first | exact trivial | refine ⟨?_, ?_⟩) ⟨rfl, trivial, rfl, trivial, rfl, trivial, rfl, trivial, trivial⟩) ?_
  refine aw_region ?_
  refine awl_val hτ rfl rfl rfl ?_
  refine bnd_elim h fun x33 hx33 h => ?_
  refine awl_callP hτ false [0] rfl rfl rfl (enterOk func52 rfl rfl) rfl rfl (by simp) ⟨trivial, trivial, trivial⟩ (by repeat' first | exact trivial | refine ⟨?_, ?_⟩) (spec_l00Src_pick_ok n x32.2 (40 : Int) hx33) ?_
  rintro r0 o0 n0 ⟨rfl, rfl, rfl⟩ -
  refine awl_val hτ rfl rfl rfl ?_
  refine awl_val hτ rfl rfl rfl ?_
  refine awl_val hτ rfl rfl rfl ?_
  refine awl_val hτ rfl rfl rfl ?_
  refine awl_nil ?_
  refine aw_hk1 (ι := List Int × Int × Int × List Nat × List Nat × List Nat × List Nat) (fun (v63, v64, v65, v66, v67, v68, v69) => St.of [(2, .ptr 1 0), (3, .ptr 4 0)] [.box [.d (.sl false (v63.map eIntu8)), .d (.int .i64 v64), .d (.int .u64 v65)], .box [.row 2 v66.length 0 v66.length, .row 3 v67.length 0 v67.length], .row 1 (v66.map eNatf32), .row 1 (v67.map eNatf32), .box [.row 5 v68.length 0 v68.length, .row 6 v69.length 0 v69.length], .row 1 (v68.map eNatf32), .row 1 (v69.map eNatf32)] f64.ntmps 1) (fun (v63, v64, v65, v66, v67, v68, v69) => m_spec_l07DrawOk_j1 n v63 v64 v65 v66 v67 v68 v69 = some r) ?_ (fun hk70 => ?_)
  · rintro ⟨v63, v64, v65, v66, v67, v68, v69⟩ h
    replace h : m_spec_l07DrawOk_j1 n v63 v64 v65 v66 v67 v68 v69 = some r := h
    unfold m_spec_l07DrawOk_j1 at h
    refine aw_seq ?_
    refine aw_region ?_
    refine awl_val hτ rfl rfl rfl ?_
    refine awl_valH hτ rfl rfl rfl ?_
    refine awl_nil ?_
    refine aw_weak (weak_ofP [0, 1, 5, 6] (l := [(2, .ptr 1 0)]) (objs := [.box [.d (.sl false (v63.map eIntu8)), .d (.int .i64 v64), .d (.int .u64 v65)], .box [.row 2 v68.length 0 v68.length, .row 3 v69.length 0 v69.length], .row 1 (v68.map eNatf32), .row 1 (v69.map eNatf32)]) rfl (by simp) rfl (by repeat' first | exact trivial | refine ⟨?_, ?_⟩) ⟨rfl, trivial, trivial⟩) ?_
    refine aw_ret ?_
    have hr := Option.some.inj h
    subst hr
    exact ret_objs (.inr rfl) [2, 3] (objs' := [.box [.d (.sl false (v63.map eIntu8)), .d (.int .i64 v64), .d (.int .u64 v65)]]) (new := [.row 1 (v68.map eNatf32), .row 1 (v69.map eNatf32)]) rfl (by simp) (by simp) rfl (by repeat' first | exact trivial | refine ⟨?_, ?_⟩) rfl rfl (by repeat' first | exact trivial | refine ⟨?_, ?_⟩) (fun h => nomatch h) ⟨rfl, rfl, rfl⟩
  · refine aw_seq ?_
    refine aw_seq ?_
    refine aw_weak (weak_ofP [0, 1, 2] (l := [(0, .ptr 0 0), (2, .ptr 1 0), (3, .ptr 2 0), (4, .d (.fl .f32 (farith .quo .f32 (FloatKind.nearest .f32 (w64 ((1 : Int) + x32.1))) (1082130432 : Nat)))), (5, .d (.fl .f32 (farith .quo .f32 (FloatKind.nearest .f32 (w64 ((40 : Int) + x33.1))) (1082130432 : Nat))))]) (objs := [.box [.d (.sl false (x33.2.code.map eIntu8)), .d (.int .i64 x33.2.at_), .d (.int .u64 x33.2.seed)], .box [.d (.nils), .d (.nils)], .box [.d (.nils), .d (.nils)]]) rfl (by simp) rfl (by repeat' first | exact trivial | refine ⟨?_, ?_⟩) ⟨rfl, trivial, rfl, trivial, rfl, trivial, rfl, trivial, rfl, trivial, trivial⟩) ?_
    refine aw_region ?_
    refine awl_val hτ rfl rfl rfl ?_
    refine bnd_elim h fun x71 hx71 h => ?_
    refine awl_callP hτ false [0] rfl rfl rfl (enterOk func52 rfl rfl) rfl rfl (by simp) ⟨trivial, trivial, trivial⟩ (by repeat' first | exact trivial | refine ⟨?_, ?_⟩) (spec_l00Src_pick_ok n x33.2 (4 : Int) hx71) ?_
    rintro r0 o0 n0 ⟨rfl, rfl, rfl⟩ -
    refine awl_val hτ rfl rfl rfl ?_
    refine awl_val hτ rfl rfl rfl ?_
    refine awl_nil ?_
    refine aw_block ?_
    refine aw_loop (ι := Nat × List Int × Int × Int × List Nat × List Nat × List Nat × List Nat × Nat × Nat × Int) (fun (m100, v76, v77, v78, v79, v80, v81, v82, v83, v84, v85) => St.of [(0, .ptr 0 0), (2, .ptr 1 0), (3, .ptr 4 0), (4, .d (.fl .f32 v83)), (5, .d (.fl .f32 v84)), (6, .d (.int .i64 v85))] [.box [.d (.sl false (v76.map eIntu8)), .d (.int .i64 v77), .d (.int .u64 v78)], .box [.row 2 v79.length 0 v79.length, .row 3 v80.length 0 v80.length], .row 1 (v79.map eNatf32), .row 1 (v80.map eNatf32), .box [.row 5 v81.length 0 v81.length, .row 6 v82.length 0 v82.length], .row 1 (v81.map eNatf32), .row 1 (v82.map eNatf32)] f64.ntmps 1) (fun (m100, v76, v77, v78, v79, v80, v81, v82, v83, v84, v85) => m_spec_l07DrawOk_l2 n m100 v76 v77 v78 v79 v80 v81 v82 v83 v84 v85 = some r) (fun x => x.1) (n, x71.2.code, x71.2.at_, x71.2.seed, ([] : List Nat), ([] : List Nat), ([] : List Nat), ([] : List Nat), (farith .quo .f32 (FloatKind.nearest .f32 (w64 ((1 : Int) + x32.1))) (1082130432 : Nat)), (farith .quo .f32 (FloatKind.nearest .f32 (w64 ((40 : Int) + x33.1))) (1082130432 : Nat)), (w64 ((2 : Int) + x71.1))) h (Weak.trans (Weak.trans (weak_ofP [0, 1, 2] (l := [(0, .ptr 0 0), (2, .ptr 1 0), (3, .ptr 2 0), (4, .d (.fl .f32 (farith .quo .f32 (FloatKind.nearest .f32 (w64 ((1 : Int) + x32.1))) (1082130432 : Nat)))), (5, .d (.fl .f32 (farith .quo .f32 (FloatKind.nearest .f32 (w64 ((40 : Int) + x33.1))) (1082130432 : Nat)))), (6, .d (.int .i64 (w64 ((2 : Int) + x71.1))))]) (objs := [.box [.d (.sl false (x71.2.code.map eIntu8)), .d (.int .i64 x71.2.at_), .d (.int .u64 x71.2.seed)], .box [.d (.nils), .d (.nils)], .box [.d (.nils), .d (.nils)]]) rfl (by simp) rfl (by repeat' first | exact trivial | refine ⟨?_, ?_⟩) ⟨rfl, trivial, rfl, trivial, rfl, trivial, rfl, trivial, rfl, trivial, rfl, trivial, trivial⟩) (weak_relax [1, 1, 1, 1] (l' := [(0, .ptr 0 0), (2, .ptr 1 0), (3, .ptr 2 0), (4, .d (.fl .f32 (farith .quo .f32 (FloatKind.nearest .f32 (w64 ((1 : Int) + x32.1))) (1082130432 : Nat)))), (5, .d (.fl .f32 (farith .quo .f32 (FloatKind.nearest .f32 (w64 ((40 : Int) + x33.1))) (1082130432 : Nat)))), (6, .d (.int .i64 (w64 ((2 : Int) + x71.1))))]) (objs' := [.box [.d (.sl false (x71.2.code.map eIntu8)), .d (.int .i64 x71.2.at_), .d (.int .u64 x71.2.seed)], .box [.row 3 (([] : List Nat).length) 0 (([] : List Nat).length), .row 4 (([] : List Nat).length) 0 (([] : List Nat).length)], .box [.row 5 (([] : List Nat).length) 0 (([] : List Nat).length), .row 6 (([] : List Nat).length) 0 (([] : List Nat).length)]]) (.cons (.c (.refl _)) (.cons (.c (.refl _)) (.cons (.c (.refl _)) (.cons (.c (.refl _)) (.cons (.c (.refl _)) (.cons (.c (.refl _)) .nil)))))) (.cons (.refl _) (.cons (.box (.cons (.ghost ⟨Nat.le_of_ble_eq_true rfl, Nat.le_of_ble_eq_true rfl⟩) (.cons (.ghost ⟨Nat.le_of_ble_eq_true rfl, Nat.le_of_ble_eq_true rfl⟩) .nil))) (.cons (.box (.cons (.ghost ⟨Nat.le_of_ble_eq_true rfl, Nat.le_of_ble_eq_true rfl⟩) (.cons (.ghost ⟨Nat.le_of_ble_eq_true rfl, Nat.le_of_ble_eq_true rfl⟩) .nil))) .nil))))) (weak_ofP [0, 1, 3, 4, 2, 5, 6] (l := [(0, .ptr 0 0), (2, .ptr 1 0), (3, .ptr 4 0), (4, .d (.fl .f32 (farith .quo .f32 (FloatKind.nearest .f32 (w64 ((1 : Int) + x32.1))) (1082130432 : Nat)))), (5, .d (.fl .f32 (farith .quo .f32 (FloatKind.nearest .f32 (w64 ((40 : Int) + x33.1))) (1082130432 : Nat)))), (6, .d (.int .i64 (w64 ((2 : Int) + x71.1))))]) (objs := [.box [.d (.sl false (x71.2.code.map eIntu8)), .d (.int .i64 x71.2.at_), .d (.int .u64 x71.2.seed)], .box [.row 2 (([] : List Nat).length) 0 (([] : List Nat).length), .row 3 (([] : List Nat).length) 0 (([] : List Nat).length)], .row 1 (([] : List Nat).map eNatf32), .row 1 (([] : List Nat).map eNatf32), .box [.row 5 (([] : List Nat).length) 0 (([] : List Nat).length), .row 6 (([] : List Nat).length) 0 (([] : List Nat).length)], .row 1 (([] : List Nat).map eNatf32), .row 1 (([] : List Nat).map eNatf32)]) rfl (by simp) rfl (by repeat' first | exact trivial | refine ⟨?_, ?_⟩) ⟨rfl, trivial, rfl, trivial, rfl, trivial, rfl, trivial, rfl, trivial, rfl, trivial, trivial⟩)) ?_
    rintro ⟨m100, v76, v77, v78, v79, v80, v81, v82, v83, v84, v85⟩ h
    replace h : m_spec_l07DrawOk_l2 n m100 v76 v77 v78 v79 v80 v81 v82 v83 v84 v85 = some r := h
    rcases m100 with _ | m100
    · rw [m_spec_l07DrawOk_l2] at h; cases h
    rw [m_spec_l07DrawOk_l2] at h
    refine aw_seq ?_
    refine aw_seq ?_
    refine aw_region ?_
    refine awl_val hτ rfl rfl rfl ?_
    refine awl_val hτ rfl rfl rfl ?_
    refine awl_nil ?_
    refine aw_cond rfl (fun hc102 => ?_) (fun hc102 => ?_)
    · have h := if_t h hc102
      refine aw_skip ?_
      refine aw_seq ?_
      refine aw_block ?_
      refine aw_seq ?_
      refine aw_region ?_
      refine awl_val hτ rfl rfl rfl ?_
      refine awl_val hτ rfl rfl rfl ?_
      refine awl_val hτ rfl rfl rfl ?_
      refine awl_valH hτ rfl rfl rfl ?_
      refine grd_elim h fun hg103 h => ?_
      refine awl_needH hτ rfl rfl (Eq.trans rfl (or_append (f := eNatf32) v81 [v83] rfl)) ⟨⟨rfl, Nat.le_of_ble_eq_true rfl⟩, len_map _, rfl, rfl, hg103, by decide, (all1 rfl)⟩ ?_
      refine awl_val hτ rfl rfl rfl ?_
      refine awl_valH hτ rfl rfl rfl ?_
      refine awl_nil ?_
      refine aw_seq ?_
      refine aw_weak (weak_ofP [0, 1, 2, 3, 4, 5, 6] (l := [(0, .ptr 0 0), (2, .ptr 1 0), (3, .ptr 4 0), (4, .d (.fl .f32 v83)), (5, .d (.fl .f32 v84)), (6, .d (.int .i64 v85))]) (objs := [.box [.d (.sl false (v76.map eIntu8)), .d (.int .i64 v77), .d (.int .u64 v78)], .box [.row 2 v79.length 0 v79.length, .row 3 v80.length 0 v80.length], .row 1 (v79.map eNatf32), .row 1 (v80.map eNatf32), .box [.row 5 ((v81 ++ [v83]).length) 0 ((v81 ++ [v83]).length), .row 6 v82.length 0 v82.length], .row 1 ((v81 ++ [v83]).map eNatf32), .row 1 (v82.map eNatf32)]) rfl (by simp) rfl (by repeat' first | exact trivial | refine ⟨?_, ?_⟩) ⟨rfl, trivial, rfl, trivial, rfl, trivial, rfl, trivial, rfl, trivial, rfl, trivial, trivial⟩) ?_
      refine aw_region ?_
      refine awl_val hτ rfl rfl rfl ?_
      refine awl_val hτ rfl rfl rfl ?_
      refine awl_val hτ rfl rfl rfl ?_
      refine awl_valH hτ rfl rfl rfl ?_
      refine grd_elim h fun hg104 h => ?_
      refine awl_needH hτ rfl rfl (Eq.trans rfl (or_append (f := eNatf32) v82 [v84] rfl)) ⟨⟨rfl, Nat.le_of_ble_eq_true rfl⟩, len_map _, rfl, rfl, hg104, by decide, (all1 rfl)⟩ ?_
      refine awl_val hτ rfl rfl rfl ?_
      refine awl_valH hτ rfl rfl rfl ?_
      refine awl_nil ?_
      refine aw_seq ?_
      refine aw_weak (weak_ofP [0, 1, 2, 3, 4, 5, 6] (l := [(0, .ptr 0 0), (2, .ptr 1 0), (3, .ptr 4 0), (4, .d (.fl .f32 v83)), (5, .d (.fl .f32 v84)), (6, .d (.int .i64 v85))]) (objs := [.box [.d (.sl false (v76.map eIntu8)), .d (.int .i64 v77), .d (.int .u64 v78)], .box [.row 2 v79.length 0 v79.length, .row 3 v80.length 0 v80.length], .row 1 (v79.map eNatf32), .row 1 (v80.map eNatf32), .box [.row 5 ((v81 ++ [v83]).length) 0 ((v81 ++ [v83]).length), .row 6 ((v82 ++ [v84]).length) 0 ((v82 ++ [v84]).length)], .row 1 ((v81 ++ [v83]).map eNatf32), .row 1 ((v82 ++ [v84]).map eNatf32)]) rfl (by simp) rfl (by repeat' first | exact trivial | refine ⟨?_, ?_⟩) ⟨rfl, trivial, rfl, trivial, rfl, trivial, rfl, trivial, rfl, trivial, rfl, trivial, trivial⟩) ?_
      refine aw_region ?_
      refine awl_val hτ rfl rfl rfl ?_
      refine awl_val hτ rfl rfl rfl ?_
      refine bnd_elim h fun x105 hx105 h => ?_
      refine awl_callP hτ false [0] rfl rfl rfl (enterOk func52 rfl rfl) rfl rfl (by simp) ⟨trivial, trivial, trivial⟩ (by repeat' first | exact trivial | refine ⟨?_, ?_⟩) (spec_l00Src_pick_ok n (SL00Src.mk v76 v77 v78) (8 : Int) hx105) ?_
      rintro r0 o0 n0 ⟨rfl, rfl, rfl⟩ -
      refine awl_val hτ rfl rfl rfl ?_
      refine awl_val hτ rfl rfl rfl ?_
      refine awl_val hτ rfl rfl rfl ?_
      refine awl_val hτ rfl rfl rfl ?_
      refine awl_val hτ rfl rfl rfl ?_
      refine awl_nil ?_
      refine aw_weak (weak_ofP [0, 1, 2, 3, 4, 5, 6] (l := [(0, .ptr 0 0), (2, .ptr 1 0), (3, .ptr 4 0), (4, .d (.fl .f32 (farith .add .f32 v83 (farith .quo .f32 (FloatKind.nearest .f32 (w64 ((1 : Int) + x105.1))) (1082130432 : Nat))))), (5, .d (.fl .f32 v84)), (6, .d (.int .i64 v85))]) (objs := [.box [.d (.sl false (x105.2.code.map eIntu8)), .d (.int .i64 x105.2.at_), .d (.int .u64 x105.2.seed)], .box [.row 2 v79.length 0 v79.length, .row 3 v80.length 0 v80.length], .row 1 (v79.map eNatf32), .row 1 (v80.map eNatf32), .box [.row 5 ((v81 ++ [v83]).length) 0 ((v81 ++ [v83]).length), .row 6 ((v82 ++ [v84]).length) 0 ((v82 ++ [v84]).length)], .row 1 ((v81 ++ [v83]).map eNatf32), .row 1 ((v82 ++ [v84]).map eNatf32)]) rfl (by simp) rfl (by repeat' first | exact trivial | refine ⟨?_, ?_⟩) ⟨rfl, trivial, rfl, trivial, rfl, trivial, rfl, trivial, rfl, trivial, rfl, trivial, trivial⟩) ?_
      refine aw_region ?_
      refine awl_val hτ rfl rfl rfl ?_
      refine awl_val hτ rfl rfl rfl ?_
      refine bnd_elim h fun x106 hx106 h => ?_
      refine awl_callP hτ false [0] rfl rfl rfl (enterOk func52 rfl rfl) rfl rfl (by simp) ⟨trivial, trivial, trivial⟩ (by repeat' first | exact trivial | refine ⟨?_, ?_⟩) (spec_l00Src_pick_ok n x105.2 (8 : Int) hx106) ?_
      rintro r0 o0 n0 ⟨rfl, rfl, rfl⟩ -
      refine awl_val hτ rfl rfl rfl ?_
      refine awl_val hτ rfl rfl rfl ?_
      refine awl_val hτ rfl rfl rfl ?_
      refine awl_val hτ rfl rfl rfl ?_
      refine awl_nil ?_
      refine aw_weak (weak_ofP [0, 1, 2, 3, 4, 5, 6] (l := [(0, .ptr 0 0), (2, .ptr 1 0), (3, .ptr 4 0), (4, .d (.fl .f32 (farith .add .f32 v83 (farith .quo .f32 (FloatKind.nearest .f32 (w64 ((1 : Int) + x105.1))) (1082130432 : Nat))))), (5, .d (.fl .f32 (farith .sub .f32 v84 (farith .quo .f32 (FloatKind.nearest .f32 x106.1) (1082130432 : Nat))))), (6, .d (.int .i64 v85))]) (objs := [.box [.d (.sl false (x106.2.code.map eIntu8)), .d (.int .i64 x106.2.at_), .d (.int .u64 x106.2.seed)], .box [.row 2 v79.length 0 v79.length, .row 3 v80.length 0 v80.length], .row 1 (v79.map eNatf32), .row 1 (v80.map eNatf32), .box [.row 5 ((v81 ++ [v83]).length) 0 ((v81 ++ [v83]).length), .row 6 ((v82 ++ [v84]).length) 0 ((v82 ++ [v84]).length)], .row 1 ((v81 ++ [v83]).map eNatf32), .row 1 ((v82 ++ [v84]).map eNatf32)]) rfl (by simp) rfl (by repeat' first | exact trivial | refine ⟨?_, ?_⟩) ⟨rfl, trivial, rfl, trivial, rfl, trivial, rfl, trivial, rfl, trivial, rfl, trivial, trivial⟩) ?_
      refine aw_region ?_
      refine awl_val hτ rfl rfl rfl ?_
      refine awl_val hτ rfl rfl rfl ?_
      refine awl_val hτ rfl rfl rfl ?_
      refine awl_nil ?_
      exact ⟨(m100, x106.2.code, x106.2.at_, x106.2.seed, v79, v80, (v81 ++ [v83]), (v82 ++ [v84]), (farith .add .f32 v83 (farith .quo .f32 (FloatKind.nearest .f32 (w64 ((1 : Int) + x105.1))) (1082130432 : Nat))), (farith .sub .f32 v84 (farith .quo .f32 (FloatKind.nearest .f32 x106.1) (1082130432 : Nat))), (w64 (v85 - (1 : Int)))), h, Nat.lt_succ_self m100, (weak_ofP [0, 1, 2, 3, 4, 5, 6] (l := [(0, .ptr 0 0), (2, .ptr 1 0), (3, .ptr 4 0), (4, .d (.fl .f32 (farith .add .f32 v83 (farith .quo .f32 (FloatKind.nearest .f32 (w64 ((1 : Int) + x105.1))) (1082130432 : Nat))))), (5, .d (.fl .f32 (farith .sub .f32 v84 (farith .quo .f32 (FloatKind.nearest .f32 x106.1) (1082130432 : Nat))))), (6, .d (.int .i64 (w64 (v85 - (1 : Int)))))]) (objs := [.box [.d (.sl false (x106.2.code.map eIntu8)), .d (.int .i64 x106.2.at_), .d (.int .u64 x106.2.seed)], .box [.row 2 v79.length 0 v79.length, .row 3 v80.length 0 v80.length], .row 1 (v79.map eNatf32), .row 1 (v80.map eNatf32), .box [.row 5 ((v81 ++ [v83]).length) 0 ((v81 ++ [v83]).length), .row 6 ((v82 ++ [v84]).length) 0 ((v82 ++ [v84]).length)], .row 1 ((v81 ++ [v83]).map eNatf32), .row 1 ((v82 ++ [v84]).map eNatf32)]) rfl (by simp) rfl (by repeat' first | exact trivial | refine ⟨?_, ?_⟩) ⟨rfl, trivial, rfl, trivial, rfl, trivial, rfl, trivial, rfl, trivial, rfl, trivial, trivial⟩)⟩
    · have h := if_f h hc102
      refine aw_exit ?_
      refine aw_weak (weak_ofP [0, 1, 2, 3, 4, 5, 6] (l := [(2, .ptr 1 0), (3, .ptr 4 0)]) (objs := [.box [.d (.sl false (v76.map eIntu8)), .d (.int .i64 v77), .d (.int .u64 v78)], .box [.row 2 v79.length 0 v79.length, .row 3 v80.length 0 v80.length], .row 1 (v79.map eNatf32), .row 1 (v80.map eNatf32), .box [.row 5 v81.length 0 v81.length, .row 6 v82.length 0 v82.length], .row 1 (v81.map eNatf32), .row 1 (v82.map eNatf32)]) rfl (by simp) rfl (by repeat' first | exact trivial | refine ⟨?_, ?_⟩) ⟨rfl, trivial, rfl, trivial, trivial⟩) ?_
      exact hk70 (v76, v77, v78, v79, v80, v81, v82) h

def m_spec_B10Curve (n : Nat) (code_ : List Int) : Option SCurve :=
  (m_spec_l00From n code_).bind fun x3 =>
  (m_spec_l07DrawOk n x3).bind fun x4 =>
  some (SCurve.mk x4.1.Currents x4.1.Times)
theorem spec_B10Curve_ok_fr0 (fr : Bool) (n : Nat) (code_ : List Int) {r : SCurve} (h : m_spec_B10Curve n code_ = some r) : ACall prog fr 27 [.d (.sl false (code_.map eIntu8))] [] (fun v o new => v = .agg [.row 0 r.Currents.length 0 r.Currents.length, .row 1 r.Times.length 0 r.Times.length] ∧ o = [] ∧ new = [.row 1 (r.Currents.map eNatf32), .row 1 (r.Times.map eNatf32)]) := by
  refine acall_of_aw hτ func27 rfl (by simp) (by simp) ?_
  unfold m_spec_B10Curve at h
  refine aw_seq ?_
  refine aw_region ?_
  refine awl_valH hτ rfl rfl rfl ?_
  refine awl_nil ?_
  refine aw_seq ?_
  refine aw_region ?_
  refine awl_val hτ rfl rfl rfl ?_
  refine bnd_elim h fun x3 hx3 h => ?_
  refine awl_callP hτ false [] rfl rfl rfl (enterOk func44 rfl rfl) rfl rfl (by simp) ⟨trivial, trivial⟩ (by repeat' first | exact trivial | refine ⟨?_, ?_⟩) (spec_l00From_ok n code_ hx3) ?_
  rintro r0 o0 n0 ⟨rfl, rfl, rfl⟩ -
  refine awl_val hτ rfl rfl rfl ?_
  refine awl_nil ?_
  refine aw_seq ?_
  refine aw_region ?_
  refine awl_val hτ rfl rfl rfl ?_
  refine bnd_elim h fun x4 hx4 h => ?_
  refine awl_callP hτ false [1] rfl rfl rfl (enterOk func64 rfl rfl) rfl rfl (by simp) ⟨trivial, trivial⟩ (by repeat' first | exact trivial | refine ⟨?_, ?_⟩) (spec_l07DrawOk_ok n x3 hx4) ?_
  rintro r0 o0 n0 ⟨rfl, rfl, rfl⟩ -
  refine awl_valH hτ rfl rfl rfl ?_
  refine awl_nil ?_
  refine aw_weak (weak_ofP [0, 2, 3] (l := [(2, .ptr 0 0)]) (objs := [.box [.row 1 x4.1.Currents.length 0 x4.1.Currents.length, .row 2 x4.1.Times.length 0 x4.1.Times.length], .row 1 (x4.1.Currents.map eNatf32), .row 1 (x4.1.Times.map eNatf32)]) rfl (by simp) rfl (by repeat' first | exact trivial | refine ⟨?_, ?_⟩) ⟨rfl, trivial, trivial⟩) ?_
  refine aw_ret ?_
  have hr := Option.some.inj h
  subst hr
  exact ret_objs (.inr rfl) [1, 2] (objs' := []) (new := [.row 1 (x4.1.Currents.map eNatf32), .row 1 (x4.1.Times.map eNatf32)]) rfl (by simp) (by simp) rfl (by repeat' first | exact trivial | refine ⟨?_, ?_⟩) rfl rfl (by repeat' first | exact trivial | refine ⟨?_, ?_⟩) (fun _ => ⟨by simp [V.flat, V.flatA, V.flatC, D.flat], (flat_cons (flat_row eNatf32_flat _) (flat_cons (flat_row eNatf32_flat _) flat_nil))⟩) ⟨rfl, rfl, rfl⟩
theorem spec_B10Curve_ok (n : Nat) (code_ : List Int) {r : SCurve} (h : m_spec_B10Curve n code_ = some r) : ACall prog false 27 [.d (.sl false (code_.map eIntu8))] [] (fun v o new => v = .agg [.row 0 r.Currents.length 0 r.Currents.length, .row 1 r.Times.length 0 r.Times.length] ∧ o = [] ∧ new = [.row 1 (r.Currents.map eNatf32), .row 1 (r.Times.map eNatf32)]) := spec_B10Curve_ok_fr0 false n code_ h
theorem spec_B10Curve_ok_fr (n : Nat) (code_ : List Int) {r : SCurve} (h : m_spec_B10Curve n code_ = some r) : ACall prog true 27 [.d (.sl false (code_.map eIntu8))] [] (fun v o new => v = .agg [.row 0 r.Currents.length 0 r.Currents.length, .row 1 r.Times.length 0 r.Times.length] ∧ o = [] ∧ new = [.row 1 (r.Currents.map eNatf32), .row 1 (r.Times.map eNatf32)]) := spec_B10Curve_ok_fr0 true n code_ h

def m_impl_in (n : Nat) (n_ : Int) (low_ : Int) (high_ : Int) : Option Bool :=
  if n_ ≥ low_ then
    some (decide (n_ ≤ high_))
  else
    some false
theorem impl_in_ok_fr0 (fr : Bool) (n : Nat) (n_ : Int) (low_ : Int) (high_ : Int) {r : Bool} (h : m_impl_in n n_ low_ high_ = some r) : ACall prog fr 60 [.d (.int .i64 n_), .d (.int .i64 low_), .d (.int .i64 high_)] [] (fun v o new => v = .d (.bool r) ∧ o = [] ∧ new = []) := by
  refine acall_of_aw hτ func60 rfl (by simp) (by simp) ?_
  unfold m_impl_in at h
  refine aw_seq ?_
  refine aw_region ?_
  refine awl_val hτ rfl rfl rfl ?_
  refine awl_nil ?_
  refine aw_seq ?_
  refine aw_region ?_
  refine awl_val hτ rfl rfl rfl ?_
  refine awl_val hτ rfl rfl rfl ?_
  refine awl_val hτ rfl rfl rfl ?_
  refine awl_val hτ rfl rfl rfl ?_
  refine awl_split 10 rfl (fun hb3 => ?_) (fun hb3 => ?_)
  · have h := if_t h hb3
    refine awl_val hτ rfl rfl rfl ?_
    refine awl_val hτ rfl rfl rfl ?_
    refine awl_val hτ rfl rfl rfl ?_
    refine awl_val hτ rfl rfl rfl ?_
    refine awl_val hτ rfl rfl rfl ?_
    refine awl_nil ?_
    refine aw_weak (weak_ofP [] (l := [(6, .d (.bool (decide (n_ ≤ high_))))]) (objs := []) rfl (by simp) rfl (by repeat' first | exact trivial | refine ⟨?_, ?_⟩) ⟨rfl, trivial, trivial⟩) ?_
    refine aw_ret ?_
    have hr := Option.some.inj h
    subst hr
    exact ret_objs (.inr rfl) [] (objs' := []) (new := []) rfl (by simp) (by simp) rfl (by repeat' first | exact trivial | refine ⟨?_, ?_⟩) rfl rfl (by repeat' first | exact trivial | refine ⟨?_, ?_⟩) (fun _ => ⟨by simp [V.flat, V.flatA, V.flatC, D.flat], flat_nil⟩) ⟨rfl, rfl, rfl⟩
  · have h := if_f h hb3
    refine awl_skip rfl rfl ?_
    refine awl_skip rfl rfl ?_
    refine awl_skip rfl rfl ?_
    refine awl_val hτ rfl rfl rfl ?_
    refine awl_val hτ rfl rfl rfl ?_
    refine awl_nil ?_
    refine aw_weak (weak_ofP [] (l := [(6, .d (.bool false))]) (objs := []) rfl (by simp) rfl (by repeat' first | exact trivial | refine ⟨?_, ?_⟩) ⟨rfl, trivial, trivial⟩) ?_
    refine aw_ret ?_
    have hr := Option.some.inj h
    subst hr
    exact ret_objs (.inr rfl) [] (objs' := []) (new := []) rfl (by simp) (by simp) rfl (by repeat' first | exact trivial | refine ⟨?_, ?_⟩) rfl rfl (by repeat' first | exact trivial | refine ⟨?_, ?_⟩) (fun _ => ⟨by simp [V.flat, V.flatA, V.flatC, D.flat], flat_nil⟩) ⟨rfl, rfl, rfl⟩
theorem impl_in_ok (n : Nat) (n_ : Int) (low_ : Int) (high_ : Int) {r : Bool} (h : m_impl_in n n_ low_ high_ = some r) : ACall prog false 60 [.d (.int .i64 n_), .d (.int .i64 low_), .d (.int .i64 high_)] [] (fun v o new => v = .d (.bool r) ∧ o = [] ∧ new = []) := impl_in_ok_fr0 false n n_ low_ high_ h
theorem impl_in_ok_fr (n : Nat) (n_ : Int) (low_ : Int) (high_ : Int) {r : Bool} (h : m_impl_in n n_ low_ high_ = some r) : ACall prog true 60 [.d (.int .i64 n_), .d (.int .i64 low_), .d (.int .i64 high_)] [] (fun v o new => v = .d (.bool r) ∧ o = [] ∧ new = []) := impl_in_ok_fr0 true n n_ low_ high_ h

def m_impl_IsFinite (n : Nat) (x_ : Nat) : Option Bool :=
  some (fcmp .eql .f32 (farith .sub .f32 x_ x_) (0 : Nat))
theorem impl_IsFinite_ok_fr0 (fr : Bool) (n : Nat) (x_ : Nat) {r : Bool} (h : m_impl_IsFinite n x_ = some r) : ACall prog fr 59 [.d (.fl .f32 x_)] [] (fun v o new => v = .d (.bool r) ∧ o = [] ∧ new = []) := by
  refine acall_of_aw hτ func59 rfl (by simp) (by simp) ?_
  unfold m_impl_IsFinite at h
  refine aw_seq ?_
  refine aw_region ?_
  refine awl_val hτ rfl rfl rfl ?_
  refine awl_nil ?_
  refine aw_seq ?_
  refine aw_region ?_
  refine awl_val hτ rfl rfl rfl ?_
  refine awl_val hτ rfl rfl rfl ?_
  refine awl_val hτ rfl rfl rfl ?_
  refine awl_val hτ rfl rfl rfl ?_
  refine awl_val hτ rfl rfl rfl ?_
  refine awl_nil ?_
  refine aw_weak (weak_ofP [] (l := [(2, .d (.bool (fcmp .eql .f32 (farith .sub .f32 x_ x_) (0 : Nat))))]) (objs := []) rfl (by simp) rfl (by repeat' first | exact trivial | refine ⟨?_, ?_⟩) ⟨rfl, trivial, trivial⟩) ?_
  refine aw_ret ?_
  have hr := Option.some.inj h
  subst hr
  exact ret_objs (.inr rfl) [] (objs' := []) (new := []) rfl (by simp) (by simp) rfl (by repeat' first | exact trivial | refine ⟨?_, ?_⟩) rfl rfl (by repeat' first | exact trivial | refine ⟨?_, ?_⟩) (fun _ => ⟨by simp [V.flat, V.flatA, V.flatC, D.flat], flat_nil⟩) ⟨rfl, rfl, rfl⟩
theorem impl_IsFinite_ok (n : Nat) (x_ : Nat) {r : Bool} (h : m_impl_IsFinite n x_ = some r) : ACall prog false 59 [.d (.fl .f32 x_)] [] (fun v o new => v = .d (.bool r) ∧ o = [] ∧ new = []) := impl_IsFinite_ok_fr0 false n x_ h
theorem impl_IsFinite_ok_fr (n : Nat) (x_ : Nat) {r : Bool} (h : m_impl_IsFinite n x_ = some r) : ACall prog true 59 [.d (.fl .f32 x_)] [] (fun v o new => v = .d (.bool r) ∧ o = [] ∧ new = []) := impl_IsFinite_ok_fr0 true n x_ h

def m_impl_plusFinite (n : Nat) (x_ : Nat) : Option Bool :=
  (m_impl_IsFinite n x_).bind fun x4 =>
  if x4 = true then
    some (fcmp .gtr .f32 x_ (0 : Nat))
  else
    some false
theorem impl_plusFinite_ok_fr0 (fr : Bool) (n : Nat) (x_ : Nat) {r : Bool} (h : m_impl_plusFinite n x_ = some r) : ACall prog fr 72 [.d (.fl .f32 x_)] [] (fun v o new => v = .d (.bool r) ∧ o = [] ∧ new = []) := by
  refine acall_of_aw hτ func72 rfl (by simp) (by simp) ?_
  unfold m_impl_plusFinite at h
  refine aw_seq ?_
  refine aw_region ?_
  refine awl_val hτ rfl rfl rfl ?_
  refine awl_nil ?_
  refine aw_seq ?_
  refine aw_region ?_
  refine awl_val hτ rfl rfl rfl ?_
  refine bnd_elim h fun x4 hx4 h => ?_
  refine awl_callP hτ false [] rfl rfl rfl (enterOk func59 rfl rfl) rfl rfl (by simp) ⟨trivial, trivial⟩ (by repeat' first | exact trivial | refine ⟨?_, ?_⟩) (impl_IsFinite_ok n x_ hx4) ?_
  rintro r0 o0 n0 ⟨rfl, rfl, rfl⟩ -
  refine awl_val hτ rfl rfl rfl ?_
  refine awl_split 5 rfl (fun hb5 => ?_) (fun hb5 => ?_)
  · have h := if_bt h hb5
    refine awl_val hτ rfl rfl rfl ?_
    refine awl_val hτ rfl rfl rfl ?_
    refine awl_val hτ rfl rfl rfl ?_
    refine awl_val hτ rfl rfl rfl ?_
    refine awl_nil ?_
    refine aw_weak (weak_ofP [] (l := [(2, .d (.bool (fcmp .gtr .f32 x_ (0 : Nat))))]) (objs := []) rfl (by simp) rfl (by repeat' first | exact trivial | refine ⟨?_, ?_⟩) ⟨rfl, trivial, trivial⟩) ?_
    refine aw_ret ?_
    have hr := Option.some.inj h
    subst hr
    exact ret_objs (.inr rfl) [] (objs' := []) (new := []) rfl (by simp) (by simp) rfl (by repeat' first | exact trivial | refine ⟨?_, ?_⟩) rfl rfl (by repeat' first | exact trivial | refine ⟨?_, ?_⟩) (fun _ => ⟨by simp [V.flat, V.flatA, V.flatC, D.flat], flat_nil⟩) ⟨rfl, rfl, rfl⟩
  · have h := if_bf h hb5
    refine awl_skip rfl rfl ?_
    refine awl_skip rfl rfl ?_
    refine awl_val hτ rfl rfl rfl ?_
    refine awl_val hτ rfl rfl rfl ?_
    refine awl_nil ?_
    refine aw_weak (weak_ofP [] (l := [(2, .d (.bool false))]) (objs := []) rfl (by simp) rfl (by repeat' first | exact trivial | refine ⟨?_, ?_⟩) ⟨rfl, trivial, trivial⟩) ?_
    refine aw_ret ?_
    have hr := Option.some.inj h
    subst hr
    exact ret_objs (.inr rfl) [] (objs' := []) (new := []) rfl (by simp) (by simp) rfl (by repeat' first | exact trivial | refine ⟨?_, ?_⟩) rfl rfl (by repeat' first | exact trivial | refine ⟨?_, ?_⟩) (fun _ => ⟨by simp [V.flat, V.flatA, V.flatC, D.flat], flat_nil⟩) ⟨rfl, rfl, rfl⟩
theorem impl_plusFinite_ok (n : Nat) (x_ : Nat) {r : Bool} (h : m_impl_plusFinite n x_ = some r) : ACall prog false 72 [.d (.fl .f32 x_)] [] (fun v o new => v = .d (.bool r) ∧ o = [] ∧ new = []) := impl_plusFinite_ok_fr0 false n x_ h
theorem impl_plusFinite_ok_fr (n : Nat) (x_ : Nat) {r : Bool} (h : m_impl_plusFinite n x_ = some r) : ACall prog true 72 [.d (.fl .f32 x_)] [] (fun v o new => v = .d (.bool r) ∧ o = [] ∧ new = []) := impl_plusFinite_ok_fr0 true n x_ h

def m_impl_ValidCurve_j3 (n : Nat) (k60 : Int → Option Bool) (v45 : Int) : Option Bool :=
  k60 (w64 (v45 + (1 : Int)))
def m_impl_ValidCurve_j4 (n : Nat) (k60 : Int → Option Bool) (v45 : Int) (v87 : Bool) : Option Bool :=
  if v87 = true then
    some false
  else
    m_impl_ValidCurve_j3 n k60 v45
def m_impl_ValidCurve_l2 (n : Nat) (c_ : SCurve) : Nat → Int → Option Bool
  | 0, _ => none
  | m59 + 1, v45 =>
    if v45 < (c_.Currents.length : Int) then
      (getI c_.Currents v45).bind fun x75 =>
      (m_impl_plusFinite n x75).bind fun x90 =>
      if x90 = true then
        (getI c_.Times v45).bind fun x92 =>
        (m_impl_plusFinite n x92).bind fun x93 =>
        if x93 = true then
          if v45 > (0 : Int) then
            (getI c_.Currents (w64 (v45 - (1 : Int)))).bind fun x96 =>
            if (fcmp .geq .f32 x96 x75) = true then
              m_impl_ValidCurve_j4 n (m_impl_ValidCurve_l2 n c_ m59) v45 true
            else
              (getI c_.Times (w64 (v45 - (1 : Int)))).bind fun x98 =>
              m_impl_ValidCurve_j4 n (m_impl_ValidCurve_l2 n c_ m59) v45 (fcmp .gtr .f32 x92 x98)
          else
            m_impl_ValidCurve_j4 n (m_impl_ValidCurve_l2 n c_ m59) v45 false
        else
          m_impl_ValidCurve_j4 n (m_impl_ValidCurve_l2 n c_ m59) v45 true
      else
        m_impl_ValidCurve_j4 n (m_impl_ValidCurve_l2 n c_ m59) v45 true
    else
      some true
def m_impl_ValidCurve_j1 (n : Nat) (c_ : SCurve) : Option Bool :=
  m_impl_ValidCurve_l2 n c_ n (0 : Int)
def m_impl_ValidCurve_j5 (n : Nat) (c_ : SCurve) (v103 : Bool) : Option Bool :=
  if v103 = true then
    some false
  else
    m_impl_ValidCurve_j1 n c_
def m_impl_ValidCurve (n : Nat) (c_ : SCurve) : Option Bool :=
  (m_impl_in n (c_.Currents.length : Int) (2 : Int) (16 : Int)).bind fun x106 =>
  if x106 = true then
    m_impl_ValidCurve_j5 n c_ (!(decide ((c_.Times.length : Int) = (c_.Currents.length : Int))))
  else
    m_impl_ValidCurve_j5 n c_ true
theorem impl_ValidCurve_ok_fr0 (fr : Bool) (n : Nat) (c_ : SCurve) {r : Bool} (h : m_impl_ValidCurve n c_ = some r) : ACall prog fr 33 [.agg [.d (.sl false (c_.Currents.map eNatf32)), .d (.sl false (c_.Times.map eNatf32))]] [] (fun v o new => v = .d (.bool r) ∧ o = [] ∧ new = []) := by
  refine acall_of_aw hτ func33 rfl (by simp) (by simp) ?_
  unfold m_impl_ValidCurve at h
  refine aw_seq ?_
  refine aw_region ?_
  refine awl_valH hτ rfl rfl rfl ?_
  refine awl_val hτ rfl rfl rfl ?_
  refine awl_nil ?_
  refine aw_hk1 (ι := Unit) (fun _ => St.of [(1, .ptr 0 0)] [.box [.d (.sl false (c_.Currents.map eNatf32)), .d (.sl false (c_.Times.map eNatf32))]] f33.ntmps 0) (fun _ => m_impl_ValidCurve_j1 n c_ = some r) ?_ (fun hk99 => ?_)
  · rintro ⟨⟩ h
    replace h : m_impl_ValidCurve_j1 n c_ = some r := h
    unfold m_impl_ValidCurve_j1 at h
    refine aw_seq ?_
    refine aw_seq ?_
    refine aw_region ?_
    refine awl_val hτ rfl rfl rfl ?_
    refine awl_val hτ rfl rfl rfl ?_
    refine awl_val hτ (v := .d (.int .i64 (c_.Currents.length : Int))) rfl rfl (Eq.trans rfl (or_len (f := eNatf32) c_.Currents)) ?_
    refine awl_val hτ rfl rfl rfl ?_
    refine awl_nil ?_
    refine aw_block ?_
    refine aw_loop (ι := Nat × Int) (fun (m59, v45) => St.of [(1, .ptr 0 0), (20, .d (.sl false (c_.Currents.map eNatf32))), (21, .d (.int .i64 (c_.Currents.length : Int))), (22, .d (.int .i64 v45))] [.box [.d (.sl false (c_.Currents.map eNatf32)), .d (.sl false (c_.Times.map eNatf32))]] f33.ntmps 0) (fun (m59, v45) => m_impl_ValidCurve_l2 n c_ m59 v45 = some r) (fun x => x.1) (n, (0 : Int)) h (weak_ofP [0] (l := [(1, .ptr 0 0), (20, .d (.sl false (c_.Currents.map eNatf32))), (21, .d (.int .i64 (c_.Currents.length : Int))), (22, .d (.int .i64 (0 : Int)))]) (objs := [.box [.d (.sl false (c_.Currents.map eNatf32)), .d (.sl false (c_.Times.map eNatf32))]]) rfl (by simp) rfl (by repeat' first | exact trivial | refine ⟨?_, ?_⟩) ⟨rfl, trivial, rfl, trivial, rfl, trivial, rfl, trivial, trivial⟩) ?_
    rintro ⟨m59, v45⟩ h
    replace h : m_impl_ValidCurve_l2 n c_ m59 v45 = some r := h
    rcases m59 with _ | m59
    · rw [m_impl_ValidCurve_l2] at h; cases h
    rw [m_impl_ValidCurve_l2] at h
    refine aw_seq ?_
    refine aw_region ?_
    refine awl_val hτ rfl rfl rfl ?_
    refine awl_nil ?_
    refine aw_seq ?_
    refine aw_cond rfl (fun hc61 => ?_) (fun hc61 => ?_)
    · have h := if_t h hc61
      refine aw_skip ?_
      refine aw_hk1 (ι := Unit) (fun _ => St.of [(1, .ptr 0 0), (20, .d (.sl false (c_.Currents.map eNatf32))), (21, .d (.int .i64 (c_.Currents.length : Int))), (22, .d (.int .i64 v45))] [.box [.d (.sl false (c_.Currents.map eNatf32)), .d (.sl false (c_.Times.map eNatf32))]] f33.ntmps 0) (fun _ => m_impl_ValidCurve_j3 n (m_impl_ValidCurve_l2 n c_ m59) v45 = some r) ?_ (fun hk74 => ?_)
      · rintro ⟨⟩ h
        replace h : m_impl_ValidCurve_j3 n (m_impl_ValidCurve_l2 n c_ m59) v45 = some r := h
        unfold m_impl_ValidCurve_j3 at h
        refine aw_region ?_
        refine awl_val hτ rfl rfl rfl ?_
        refine awl_val hτ rfl rfl rfl ?_
        refine awl_nil ?_
        exact ⟨(m59, (w64 (v45 + (1 : Int)))), h, Nat.lt_succ_self m59, (weak_ofP [0] (l := [(1, .ptr 0 0), (20, .d (.sl false (c_.Currents.map eNatf32))), (21, .d (.int .i64 (c_.Currents.length : Int))), (22, .d (.int .i64 (w64 (v45 + (1 : Int)))))]) (objs := [.box [.d (.sl false (c_.Currents.map eNatf32)), .d (.sl false (c_.Times.map eNatf32))]]) rfl (by simp) rfl (by repeat' first | exact trivial | refine ⟨?_, ?_⟩) ⟨rfl, trivial, rfl, trivial, rfl, trivial, rfl, trivial, trivial⟩)⟩
      · refine aw_seq ?_
        refine aw_block ?_
        refine aw_seq ?_
        refine aw_region ?_
        refine awl_val hτ rfl rfl rfl ?_
        refine bnd_elim h fun x75 hx75 h => ?_
        refine awl_elem hτ rfl rfl rfl (getI_some hx75).1 (map_getI hx75) rfl ?_
        refine awl_val hτ rfl rfl rfl ?_
        refine awl_val hτ rfl rfl rfl ?_
        refine awl_val hτ rfl rfl rfl ?_
        refine awl_nil ?_
        refine aw_hk1 (ι := Bool) (fun v87 => St.of [(1, .ptr 0 0), (20, .d (.sl false (c_.Currents.map eNatf32))), (21, .d (.int .i64 (c_.Currents.length : Int))), (22, .d (.int .i64 v45)), (66, .d (.bool v87))] [.box [.d (.sl false (c_.Currents.map eNatf32)), .d (.sl false (c_.Times.map eNatf32))]] f33.ntmps 0) (fun v87 => m_impl_ValidCurve_j4 n (m_impl_ValidCurve_l2 n c_ m59) v45 v87 = some r) ?_ (fun hk89 => ?_)
        · rintro v87 h
          replace h : m_impl_ValidCurve_j4 n (m_impl_ValidCurve_l2 n c_ m59) v45 v87 = some r := h
          unfold m_impl_ValidCurve_j4 at h
          refine aw_cond rfl (fun hc88 => ?_) (fun hc88 => ?_)
          · have h := if_bt h hc88
            refine aw_seq ?_
            refine aw_region ?_
            refine awl_val hτ rfl rfl rfl ?_
            refine awl_nil ?_
            refine aw_weak (weak_ofP [] (l := [(2, .d (.bool false))]) (objs := []) rfl (by simp) rfl (by repeat' first | exact trivial | refine ⟨?_, ?_⟩) ⟨rfl, trivial, trivial⟩) ?_
            refine aw_ret ?_
            have hr := Option.some.inj h
            subst hr
            exact ret_objs (.inr rfl) [] (objs' := []) (new := []) rfl (by simp) (by simp) rfl (by repeat' first | exact trivial | refine ⟨?_, ?_⟩) rfl rfl (by repeat' first | exact trivial | refine ⟨?_, ?_⟩) (fun _ => ⟨by simp [V.flat, V.flatA, V.flatC, D.flat], flat_nil⟩) ⟨rfl, rfl, rfl⟩
          · have h := if_bf h hc88
            refine aw_skip ?_
            refine aw_weak (weak_ofP [0] (l := [(1, .ptr 0 0), (20, .d (.sl false (c_.Currents.map eNatf32))), (21, .d (.int .i64 (c_.Currents.length : Int))), (22, .d (.int .i64 v45))]) (objs := [.box [.d (.sl false (c_.Currents.map eNatf32)), .d (.sl false (c_.Times.map eNatf32))]]) rfl (by simp) rfl (by repeat' first | exact trivial | refine ⟨?_, ?_⟩) ⟨rfl, trivial, rfl, trivial, rfl, trivial, rfl, trivial, trivial⟩) ?_
            exact hk74 () h
        · refine aw_seq ?_
          refine aw_weak (weak_ofP [0] (l := [(1, .ptr 0 0), (3, .d (.int .i64 v45)), (4, .d (.fl .f32 x75)), (20, .d (.sl false (c_.Currents.map eNatf32))), (21, .d (.int .i64 (c_.Currents.length : Int))), (22, .d (.int .i64 v45))]) (objs := [.box [.d (.sl false (c_.Currents.map eNatf32)), .d (.sl false (c_.Times.map eNatf32))]]) rfl (by simp) rfl (by repeat' first | exact trivial | refine ⟨?_, ?_⟩) ⟨rfl, trivial, rfl, trivial, rfl, trivial, rfl, trivial, rfl, trivial, rfl, trivial, trivial⟩) ?_
          refine any_start ?_
          refine any_val hτ [] 0 rfl rfl rfl rfl rfl ?_
          refine bnd_elim h fun x90 hx90 h => ?_
          refine any_callP hτ false [] [0] 1 rfl rfl rfl rfl (enterOk func72 rfl rfl) rfl rfl (by simp) ⟨trivial, trivial⟩ (by repeat' first | exact trivial | refine ⟨?_, ?_⟩) (impl_plusFinite_ok n x75 hx90) ⟨rfl, trivial⟩ ?_
          refine any_val hτ [] 2 rfl rfl rfl rfl rfl ?_
          refine any_val hτ [] 3 rfl rfl rfl rfl rfl ?_
          refine any_split 30 rfl (fun hb91 => ?_) (fun hb91 => ?_)
          · have hb91 := not_t hb91
            have h := if_bf h hb91
            refine any_skip 4 rfl rfl rfl ?_
            refine any_skip 5 rfl rfl rfl ?_
            refine any_skip 6 rfl rfl rfl ?_
            refine any_skip 7 rfl rfl rfl ?_
            refine any_skip 8 rfl rfl rfl ?_
            refine any_skip 9 rfl rfl rfl ?_
            refine any_skip 10 rfl rfl rfl ?_
            refine any_val hτ [] 11 rfl rfl rfl rfl rfl ?_
            refine any_val hτ [] 12 rfl rfl rfl rfl rfl ?_
            refine any_skip 13 rfl rfl rfl ?_
            refine any_skip 14 rfl rfl rfl ?_
            refine any_skip 15 rfl rfl rfl ?_
            refine any_skip 16 rfl rfl rfl ?_
            refine any_skip 17 rfl rfl rfl ?_
            refine any_skip 18 rfl rfl rfl ?_
            refine any_skip 19 rfl rfl rfl ?_
            refine any_skip 20 rfl rfl rfl ?_
            refine any_skip 21 rfl rfl rfl ?_
            refine any_skip 22 rfl rfl rfl ?_
            refine any_skip 23 rfl rfl rfl ?_
            refine any_skip 24 rfl rfl rfl ?_
            refine any_skip 25 rfl rfl rfl ?_
            refine any_skip 26 rfl rfl rfl ?_
            refine any_skip 27 rfl rfl rfl ?_
            refine any_skip 28 rfl rfl rfl ?_
            refine any_skip 29 rfl rfl rfl ?_
            refine any_skip 30 rfl rfl rfl ?_
            refine any_skip 31 rfl rfl rfl ?_
            refine any_skip 32 rfl rfl rfl ?_
            refine any_skip 33 rfl rfl rfl ?_
            refine any_skip 34 rfl rfl rfl ?_
            refine any_skip 35 rfl rfl rfl ?_
            refine any_skip 36 rfl rfl rfl ?_
            refine any_skip 37 rfl rfl rfl ?_
            refine any_skip 38 rfl rfl rfl ?_
            refine any_val hτ [] 39 rfl rfl rfl rfl rfl ?_
            refine any_done mixed (by kernel_rfl) ?_
            refine aw_weak (weak_ofP [0] (l := [(1, .ptr 0 0), (20, .d (.sl false (c_.Currents.map eNatf32))), (21, .d (.int .i64 (c_.Currents.length : Int))), (22, .d (.int .i64 v45)), (66, .d (.bool true))]) (objs := [.box [.d (.sl false (c_.Currents.map eNatf32)), .d (.sl false (c_.Times.map eNatf32))]]) rfl (by simp) rfl (by repeat' first | exact trivial | refine ⟨?_, ?_⟩) ⟨rfl, trivial, rfl, trivial, rfl, trivial, rfl, trivial, rfl, trivial, trivial⟩) ?_
            exact hk89 true h
          · have hb91 := not_f hb91
            have h := if_bt h hb91
            refine any_val hτ [0] 4 rfl rfl rfl rfl rfl ?_
            refine any_val hτ [0] 5 rfl rfl rfl rfl rfl ?_
            refine any_val hτ [] 6 rfl rfl rfl rfl rfl ?_
            refine bnd_elim h fun x92 hx92 h => ?_
            refine any_elem hτ [] 7 rfl rfl rfl rfl rfl (getI_some hx92).1 (map_getI hx92) rfl ?_
            refine any_val hτ [] 8 rfl rfl rfl rfl rfl ?_
            refine bnd_elim h fun x93 hx93 h => ?_
            refine any_callP hτ false [] [0] 9 rfl rfl rfl rfl (enterOk func72 rfl rfl) rfl rfl (by simp) ⟨trivial, trivial⟩ (by repeat' first | exact trivial | refine ⟨?_, ?_⟩) (impl_plusFinite_ok n x92 hx93) ⟨rfl, trivial⟩ ?_
            refine any_val hτ [] 10 rfl rfl rfl rfl rfl ?_
            refine any_val hτ [] 11 rfl rfl rfl rfl rfl ?_
            refine any_val hτ [] 12 rfl rfl rfl rfl rfl ?_
            refine any_split 39 rfl (fun hb94 => ?_) (fun hb94 => ?_)
            · have hb94 := not_t hb94
              have h := if_bf h hb94
              refine any_skip 13 rfl rfl rfl ?_
              refine any_skip 14 rfl rfl rfl ?_
              refine any_skip 15 rfl rfl rfl ?_
              refine any_skip 16 rfl rfl rfl ?_
              refine any_skip 17 rfl rfl rfl ?_
              refine any_skip 18 rfl rfl rfl ?_
              refine any_skip 19 rfl rfl rfl ?_
              refine any_skip 20 rfl rfl rfl ?_
              refine any_skip 21 rfl rfl rfl ?_
              refine any_skip 22 rfl rfl rfl ?_
              refine any_skip 23 rfl rfl rfl ?_
              refine any_skip 24 rfl rfl rfl ?_
              refine any_skip 25 rfl rfl rfl ?_
              refine any_skip 26 rfl rfl rfl ?_
              refine any_skip 27 rfl rfl rfl ?_
              refine any_skip 28 rfl rfl rfl ?_
              refine any_skip 29 rfl rfl rfl ?_
              refine any_skip 30 rfl rfl rfl ?_
              refine any_skip 31 rfl rfl rfl ?_
              refine any_skip 32 rfl rfl rfl ?_
              refine any_skip 33 rfl rfl rfl ?_
              refine any_skip 34 rfl rfl rfl ?_
              refine any_skip 35 rfl rfl rfl ?_
              refine any_skip 36 rfl rfl rfl ?_
              refine any_skip 37 rfl rfl rfl ?_
              refine any_skip 38 rfl rfl rfl ?_
              refine any_val hτ [] 39 rfl rfl rfl rfl rfl ?_
              refine any_done mixed (by kernel_rfl) ?_
              refine aw_weak (weak_ofP [0] (l := [(1, .ptr 0 0), (20, .d (.sl false (c_.Currents.map eNatf32))), (21, .d (.int .i64 (c_.Currents.length : Int))), (22, .d (.int .i64 v45)), (66, .d (.bool true))]) (objs := [.box [.d (.sl false (c_.Currents.map eNatf32)), .d (.sl false (c_.Times.map eNatf32))]]) rfl (by simp) rfl (by repeat' first | exact trivial | refine ⟨?_, ?_⟩) ⟨rfl, trivial, rfl, trivial, rfl, trivial, rfl, trivial, rfl, trivial, trivial⟩) ?_
              exact hk89 true h
            · have hb94 := not_f hb94
              have h := if_bt h hb94
              refine any_val hτ [] 13 rfl rfl rfl rfl rfl ?_
              refine any_val hτ [] 14 rfl rfl rfl rfl rfl ?_
              refine any_val hτ [] 15 rfl rfl rfl rfl rfl ?_
              refine any_split 42 rfl (fun hb95 => ?_) (fun hb95 => ?_)
              · have h := if_t h hb95
                refine any_val hτ [0] 16 rfl rfl rfl rfl rfl ?_
                refine any_val hτ [0] 17 rfl rfl rfl rfl rfl ?_
                refine any_val hτ [] 18 rfl rfl rfl rfl rfl ?_
                refine any_val hτ [] 19 rfl rfl rfl rfl rfl ?_
                refine bnd_elim h fun x96 hx96 h => ?_
                refine any_elem hτ [] 20 rfl rfl rfl rfl rfl (getI_some hx96).1 (map_getI hx96) rfl ?_
                refine any_val hτ [] 21 rfl rfl rfl rfl rfl ?_
                refine any_val hτ [] 22 rfl rfl rfl rfl rfl ?_
                refine any_val hτ [] 23 rfl rfl rfl rfl rfl ?_
                refine any_val hτ [] 24 rfl rfl rfl rfl rfl ?_
                refine any_split 51 rfl (fun hb97 => ?_) (fun hb97 => ?_)
                · have h := if_bt h hb97
                  refine any_skip 25 rfl rfl rfl ?_
                  refine any_skip 26 rfl rfl rfl ?_
                  refine any_skip 27 rfl rfl rfl ?_
                  refine any_skip 28 rfl rfl rfl ?_
                  refine any_skip 29 rfl rfl rfl ?_
                  refine any_skip 30 rfl rfl rfl ?_
                  refine any_skip 31 rfl rfl rfl ?_
                  refine any_skip 32 rfl rfl rfl ?_
                  refine any_skip 33 rfl rfl rfl ?_
                  refine any_skip 34 rfl rfl rfl ?_
                  refine any_skip 35 rfl rfl rfl ?_
                  refine any_skip 36 rfl rfl rfl ?_
                  refine any_val hτ [] 37 rfl rfl rfl rfl rfl ?_
                  refine any_val hτ [] 38 rfl rfl rfl rfl rfl ?_
                  refine any_val hτ [] 39 rfl rfl rfl rfl rfl ?_
                  refine any_done mixed (by kernel_rfl) ?_
                  refine aw_weak (weak_ofP [0] (l := [(1, .ptr 0 0), (20, .d (.sl false (c_.Currents.map eNatf32))), (21, .d (.int .i64 (c_.Currents.length : Int))), (22, .d (.int .i64 v45)), (66, .d (.bool true))]) (objs := [.box [.d (.sl false (c_.Currents.map eNatf32)), .d (.sl false (c_.Times.map eNatf32))]]) rfl (by simp) rfl (by repeat' first | exact trivial | refine ⟨?_, ?_⟩) ⟨rfl, trivial, rfl, trivial, rfl, trivial, rfl, trivial, rfl, trivial, trivial⟩) ?_
                  exact hk89 true h
                · have h := if_bf h hb97
                  refine any_val hτ [0] 25 rfl rfl rfl rfl rfl ?_
                  refine any_val hτ [0] 26 rfl rfl rfl rfl rfl ?_
                  refine any_val hτ [] 27 rfl rfl rfl rfl rfl ?_
                  refine any_elem hτ [] 28 rfl rfl rfl rfl rfl (getI_some hx92).1 (map_getI hx92) rfl ?_
                  refine any_val hτ [] 29 rfl rfl rfl rfl rfl ?_
                  refine any_val hτ [0] 30 rfl rfl rfl rfl rfl ?_
                  refine any_val hτ [0] 31 rfl rfl rfl rfl rfl ?_
                  refine any_val hτ [] 32 rfl rfl rfl rfl rfl ?_
                  refine any_val hτ [] 33 rfl rfl rfl rfl rfl ?_
                  refine bnd_elim h fun x98 hx98 h => ?_
                  refine any_elem hτ [] 34 rfl rfl rfl rfl rfl (getI_some hx98).1 (map_getI hx98) rfl ?_
                  refine any_val hτ [] 35 rfl rfl rfl rfl rfl ?_
                  refine any_val hτ [] 36 rfl rfl rfl rfl rfl ?_
                  refine any_val hτ [] 37 rfl rfl rfl rfl rfl ?_
                  refine any_val hτ [] 38 rfl rfl rfl rfl rfl ?_
                  refine any_val hτ [] 39 rfl rfl rfl rfl rfl ?_
                  refine any_done mixed (by kernel_rfl) ?_
                  refine aw_weak (weak_ofP [0] (l := [(1, .ptr 0 0), (20, .d (.sl false (c_.Currents.map eNatf32))), (21, .d (.int .i64 (c_.Currents.length : Int))), (22, .d (.int .i64 v45)), (66, .d (.bool (fcmp .gtr .f32 x92 x98)))]) (objs := [.box [.d (.sl false (c_.Currents.map eNatf32)), .d (.sl false (c_.Times.map eNatf32))]]) rfl (by simp) rfl (by repeat' first | exact trivial | refine ⟨?_, ?_⟩) ⟨rfl, trivial, rfl, trivial, rfl, trivial, rfl, trivial, rfl, trivial, trivial⟩) ?_
                  exact hk89 (fcmp .gtr .f32 x92 x98) h
              · have h := if_f h hb95
                refine any_skip 16 rfl rfl rfl ?_
                refine any_skip 17 rfl rfl rfl ?_
                refine any_skip 18 rfl rfl rfl ?_
                refine any_skip 19 rfl rfl rfl ?_
                refine any_skip 20 rfl rfl rfl ?_
                refine any_skip 21 rfl rfl rfl ?_
                refine any_skip 22 rfl rfl rfl ?_
                refine any_skip 23 rfl rfl rfl ?_
                refine any_skip 24 rfl rfl rfl ?_
                refine any_skip 25 rfl rfl rfl ?_
                refine any_skip 26 rfl rfl rfl ?_
                refine any_skip 27 rfl rfl rfl ?_
                refine any_skip 28 rfl rfl rfl ?_
                refine any_skip 29 rfl rfl rfl ?_
                refine any_skip 30 rfl rfl rfl ?_
                refine any_skip 31 rfl rfl rfl ?_
                refine any_skip 32 rfl rfl rfl ?_
                refine any_skip 33 rfl rfl rfl ?_
                refine any_skip 34 rfl rfl rfl ?_
                refine any_skip 35 rfl rfl rfl ?_
                refine any_skip 36 rfl rfl rfl ?_
                refine any_skip 37 rfl rfl rfl ?_
                refine any_val hτ [] 38 rfl rfl rfl rfl rfl ?_
                refine any_val hτ [] 39 rfl rfl rfl rfl rfl ?_
                refine any_done mixed (by kernel_rfl) ?_
                refine aw_weak (weak_ofP [0] (l := [(1, .ptr 0 0), (20, .d (.sl false (c_.Currents.map eNatf32))), (21, .d (.int .i64 (c_.Currents.length : Int))), (22, .d (.int .i64 v45)), (66, .d (.bool false))]) (objs := [.box [.d (.sl false (c_.Currents.map eNatf32)), .d (.sl false (c_.Times.map eNatf32))]]) rfl (by simp) rfl (by repeat' first | exact trivial | refine ⟨?_, ?_⟩) ⟨rfl, trivial, rfl, trivial, rfl, trivial, rfl, trivial, rfl, trivial, trivial⟩) ?_
                exact hk89 false h
    · have h := if_f h hc61
      refine aw_exit ?_
      refine aw_seq ?_
      refine aw_region ?_
      refine awl_val hτ rfl rfl rfl ?_
      refine awl_nil ?_
      refine aw_weak (weak_ofP [] (l := [(2, .d (.bool true))]) (objs := []) rfl (by simp) rfl (by repeat' first | exact trivial | refine ⟨?_, ?_⟩) ⟨rfl, trivial, trivial⟩) ?_
      refine aw_ret ?_
      have hr := Option.some.inj h
      subst hr
      exact ret_objs (.inr rfl) [] (objs' := []) (new := []) rfl (by simp) (by simp) rfl (by repeat' first | exact trivial | refine ⟨?_, ?_⟩) rfl rfl (by repeat' first | exact trivial | refine ⟨?_, ?_⟩) (fun _ => ⟨by simp [V.flat, V.flatA, V.flatC, D.flat], flat_nil⟩) ⟨rfl, rfl, rfl⟩
  · refine aw_seq ?_
    refine aw_hk1 (ι := Bool) (fun v103 => St.of [(1, .ptr 0 0), (18, .d (.bool v103))] [.box [.d (.sl false (c_.Currents.map eNatf32)), .d (.sl false (c_.Times.map eNatf32))]] f33.ntmps 0) (fun v103 => m_impl_ValidCurve_j5 n c_ v103 = some r) ?_ (fun hk105 => ?_)
    · rintro v103 h
      replace h : m_impl_ValidCurve_j5 n c_ v103 = some r := h
      unfold m_impl_ValidCurve_j5 at h
      refine aw_cond rfl (fun hc104 => ?_) (fun hc104 => ?_)
      · have h := if_bt h hc104
        refine aw_seq ?_
        refine aw_region ?_
        refine awl_val hτ rfl rfl rfl ?_
        refine awl_nil ?_
        refine aw_weak (weak_ofP [] (l := [(2, .d (.bool false))]) (objs := []) rfl (by simp) rfl (by repeat' first | exact trivial | refine ⟨?_, ?_⟩) ⟨rfl, trivial, trivial⟩) ?_
        refine aw_ret ?_
        have hr := Option.some.inj h
        subst hr
        exact ret_objs (.inr rfl) [] (objs' := []) (new := []) rfl (by simp) (by simp) rfl (by repeat' first | exact trivial | refine ⟨?_, ?_⟩) rfl rfl (by repeat' first | exact trivial | refine ⟨?_, ?_⟩) (fun _ => ⟨by simp [V.flat, V.flatA, V.flatC, D.flat], flat_nil⟩) ⟨rfl, rfl, rfl⟩
      · have h := if_bf h hc104
        refine aw_skip ?_
        refine aw_weak (weak_ofP [0] (l := [(1, .ptr 0 0)]) (objs := [.box [.d (.sl false (c_.Currents.map eNatf32)), .d (.sl false (c_.Times.map eNatf32))]]) rfl (by simp) rfl (by repeat' first | exact trivial | refine ⟨?_, ?_⟩) ⟨rfl, trivial, trivial⟩) ?_
        exact hk99 () h
    · refine aw_seq ?_
      refine aw_region ?_
      refine awl_val hτ rfl rfl rfl ?_
      refine awl_val hτ rfl rfl rfl ?_
      refine awl_val hτ (v := .d (.int .i64 (c_.Currents.length : Int))) rfl rfl (Eq.trans rfl (or_len (f := eNatf32) c_.Currents)) ?_
      refine bnd_elim h fun x106 hx106 h => ?_
      refine awl_callP hτ false [] rfl rfl rfl (enterOk func60 rfl rfl) rfl rfl (by simp) ⟨trivial, trivial, trivial, trivial⟩ (by repeat' first | exact trivial | refine ⟨?_, ?_⟩) (impl_in_ok n (c_.Currents.length : Int) (2 : Int) (16 : Int) hx106) ?_
      rintro r0 o0 n0 ⟨rfl, rfl, rfl⟩ -
      refine awl_val hτ rfl rfl rfl ?_
      refine awl_val hτ rfl rfl rfl ?_
      refine awl_split 10 rfl (fun hb107 => ?_) (fun hb107 => ?_)
      · have hb107 := not_t hb107
        have h := if_bf h hb107
        refine awl_skip rfl rfl ?_
        refine awl_skip rfl rfl ?_
        refine awl_skip rfl rfl ?_
        refine awl_skip rfl rfl ?_
        refine awl_weak (weak_ofP [0] (l := [(1, .ptr 0 0), (10, .d (.bool true)), (13, .und), (14, .und)]) (objs := [.box [.d (.sl false (c_.Currents.map eNatf32)), .d (.sl false (c_.Times.map eNatf32))]]) rfl (by simp) rfl (by repeat' first | exact trivial | refine ⟨?_, ?_⟩) ⟨rfl, trivial, rfl, trivial, rfl, trivial, rfl, trivial, trivial⟩) ?_
        refine awl_skip rfl rfl ?_
        refine awl_skip rfl rfl ?_
        refine awl_skip rfl rfl ?_
        refine awl_val hτ rfl rfl rfl ?_
        refine awl_nil ?_
        refine aw_weak (weak_ofP [0] (l := [(1, .ptr 0 0), (18, .d (.bool true))]) (objs := [.box [.d (.sl false (c_.Currents.map eNatf32)), .d (.sl false (c_.Times.map eNatf32))]]) rfl (by simp) rfl (by repeat' first | exact trivial | refine ⟨?_, ?_⟩) ⟨rfl, trivial, rfl, trivial, trivial⟩) ?_
        exact hk105 true h
      · have hb107 := not_f hb107
        have h := if_bt h hb107
        refine awl_val hτ rfl rfl rfl ?_
        refine awl_val hτ rfl rfl rfl ?_
        refine awl_val hτ (v := .d (.int .i64 (c_.Times.length : Int))) rfl rfl (Eq.trans rfl (or_len (f := eNatf32) c_.Times)) ?_
        refine awl_val hτ rfl rfl rfl ?_
        refine awl_weak (weak_ofP [0] (l := [(1, .ptr 0 0), (10, .d (.bool false)), (13, .d (.int .i64 (c_.Times.length : Int))), (14, .ptr 0 0)]) (objs := [.box [.d (.sl false (c_.Currents.map eNatf32)), .d (.sl false (c_.Times.map eNatf32))]]) rfl (by simp) rfl (by repeat' first | exact trivial | refine ⟨?_, ?_⟩) ⟨rfl, trivial, rfl, trivial, rfl, trivial, rfl, trivial, trivial⟩) ?_
        refine awl_val hτ rfl rfl rfl ?_
        refine awl_val hτ (v := .d (.int .i64 (c_.Currents.length : Int))) rfl rfl (Eq.trans rfl (or_len (f := eNatf32) c_.Currents)) ?_
        refine awl_val hτ (v := .d (.bool (!(decide ((c_.Times.length : Int) = (c_.Currents.length : Int)))))) rfl rfl (or_ine _ _) ?_
        refine awl_val hτ rfl rfl rfl ?_
        refine awl_nil ?_
        refine aw_weak (weak_ofP [0] (l := [(1, .ptr 0 0), (18, .d (.bool (!(decide ((c_.Times.length : Int) = (c_.Currents.length : Int))))))]) (objs := [.box [.d (.sl false (c_.Currents.map eNatf32)), .d (.sl false (c_.Times.map eNatf32))]]) rfl (by simp) rfl (by repeat' first | exact trivial | refine ⟨?_, ?_⟩) ⟨rfl, trivial, rfl, trivial, trivial⟩) ?_
        exact hk105 (!(decide ((c_.Times.length : Int) = (c_.Currents.length : Int)))) h
theorem impl_ValidCurve_ok (n : Nat) (c_ : SCurve) {r : Bool} (h : m_impl_ValidCurve n c_ = some r) : ACall prog false 33 [.agg [.d (.sl false (c_.Currents.map eNatf32)), .d (.sl false (c_.Times.map eNatf32))]] [] (fun v o new => v = .d (.bool r) ∧ o = [] ∧ new = []) := impl_ValidCurve_ok_fr0 false n c_ h
theorem impl_ValidCurve_ok_fr (n : Nat) (c_ : SCurve) {r : Bool} (h : m_impl_ValidCurve n c_ = some r) : ACall prog true 33 [.agg [.d (.sl false (c_.Currents.map eNatf32)), .d (.sl false (c_.Times.map eNatf32))]] [] (fun v o new => v = .d (.bool r) ∧ o = [] ∧ new = []) := impl_ValidCurve_ok_fr0 true n c_ h

def m_impl_Curve_time_j1 (n : Nat) (c_ : SCurve) (current_ : Nat) (v23 : Int) : Option (Nat × Bool) :=
  (getI c_.Currents v23).bind fun x24 =>
  (getI c_.Currents (w64 (v23 + (1 : Int)))).bind fun x25 =>
  (getI c_.Times v23).bind fun x26 =>
  (getI c_.Times (w64 (v23 + (1 : Int)))).bind fun x27 =>
  some ((farith .add .f32 x26 (farith .mul .f32 (farith .sub .f32 x27 x26) (farith .quo .f32 (farith .sub .f32 current_ x24) (farith .sub .f32 x25 x24)))), true)
def m_impl_Curve_time_l2 (n : Nat) (c_ : SCurve) (current_ : Nat) : Nat → Int → Option (Nat × Bool)
  | 0, _ => none
  | m33 + 1, v30 =>
    (getI c_.Currents (w64 (v30 + (1 : Int)))).bind fun x36 =>
    if (fcmp .leq .f32 x36 current_) = true then
      (m_impl_Curve_time_l2 n c_ current_ m33) (w64 (v30 + (1 : Int)))
    else
      m_impl_Curve_time_j1 n c_ current_ v30
def m_impl_Curve_time (n : Nat) (c_ : SCurve) (current_ : Nat) : Option (Nat × Bool) :=
  (getI c_.Currents (0 : Int)).bind fun x12 =>
  if (fcmp .geq .f32 current_ x12) = true then
    (getI c_.Currents (w64 ((c_.Currents.length : Int) - (1 : Int)))).bind fun x16 =>
    if (fcmp .geq .f32 current_ x16) = true then
      (getI c_.Times (w64 ((c_.Currents.length : Int) - (1 : Int)))).bind fun x18 =>
      some (x18, true)
    else
      m_impl_Curve_time_l2 n c_ current_ n (0 : Int)
  else
    some ((0 : Nat), false)
theorem impl_Curve_time_ok (n : Nat) (c_ : SCurve) (current_ : Nat) {r : Nat × Bool} (h : m_impl_Curve_time n c_ current_ = some r) : ACall prog false 65 [.ptr 0 0, .d (.fl .f32 current_)] [.box [.d (.sl false (c_.Currents.map eNatf32)), .d (.sl false (c_.Times.map eNatf32))]] (fun v o new => v = .tup [.d (.fl .f32 r.1), .d (.bool r.2)] ∧ o = [.box [.d (.sl false (c_.Currents.map eNatf32)), .d (.sl false (c_.Times.map eNatf32))]] ∧ new = []) := by
  refine acall_of_aw hτ func65 rfl (by simp) (by simp) ?_
  unfold m_impl_Curve_time at h
  refine aw_seq ?_
  refine aw_region ?_
  refine awl_val hτ rfl rfl rfl ?_
  refine awl_val hτ rfl rfl rfl ?_
  refine awl_nil ?_
  refine aw_seq ?_
  refine aw_region ?_
  refine awl_val hτ rfl rfl rfl ?_
  refine awl_val hτ rfl rfl rfl ?_
  refine awl_val hτ rfl rfl rfl ?_
  refine awl_val hτ rfl rfl rfl ?_
  refine awl_val hτ (v := .d (.int .i64 (c_.Currents.length : Int))) rfl rfl (Eq.trans rfl (or_len (f := eNatf32) c_.Currents)) ?_
  refine awl_val hτ rfl rfl rfl ?_
  refine awl_val hτ rfl rfl rfl ?_
  refine awl_nil ?_
  refine aw_seq ?_
  refine aw_seq ?_
  refine aw_weak (weak_ofP [0] (l := [(0, .ptr 0 0), (1, .d (.fl .f32 current_)), (6, .d (.int .i64 (w64 ((c_.Currents.length : Int) - (1 : Int)))))]) (objs := [.box [.d (.sl false (c_.Currents.map eNatf32)), .d (.sl false (c_.Times.map eNatf32))]]) rfl (by simp) rfl (by repeat' first | exact trivial | refine ⟨?_, ?_⟩) ⟨rfl, trivial, rfl, trivial, rfl, trivial, trivial⟩) ?_
  refine aw_region ?_
  refine awl_val hτ rfl rfl rfl ?_
  refine awl_val hτ rfl rfl rfl ?_
  refine awl_val hτ rfl rfl rfl ?_
  refine awl_val hτ rfl rfl rfl ?_
  refine awl_val hτ rfl rfl rfl ?_
  refine bnd_elim h fun x12 hx12 h => ?_
  refine awl_elem hτ rfl rfl rfl (getI_some hx12).1 (map_getI hx12) rfl ?_
  refine awl_val hτ rfl rfl rfl ?_
  refine awl_val hτ rfl rfl rfl ?_
  refine awl_val hτ rfl rfl rfl ?_
  refine awl_nil ?_
  refine aw_weak (weak_ofP [0] (l := [(0, .ptr 0 0), (1, .d (.fl .f32 current_)), (6, .d (.int .i64 (w64 ((c_.Currents.length : Int) - (1 : Int))))), (27, .d (.bool (!(fcmp .geq .f32 current_ x12))))]) (objs := [.box [.d (.sl false (c_.Currents.map eNatf32)), .d (.sl false (c_.Times.map eNatf32))]]) rfl (by simp) rfl (by repeat' first | exact trivial | refine ⟨?_, ?_⟩) ⟨rfl, trivial, rfl, trivial, rfl, trivial, rfl, trivial, trivial⟩) ?_
  refine aw_cond rfl (fun hc13 => ?_) (fun hc13 => ?_)
  · have hc13 := not_t hc13
    have h := if_bf h hc13
    refine aw_seq ?_
    refine aw_region ?_
    refine awl_val hτ rfl rfl rfl ?_
    refine awl_val hτ rfl rfl rfl ?_
    refine awl_nil ?_
    refine aw_weak (weak_ofP [0] (l := [(4, .d (.fl .f32 (0 : Nat))), (5, .d (.bool false))]) (objs := [.box [.d (.sl false (c_.Currents.map eNatf32)), .d (.sl false (c_.Times.map eNatf32))]]) rfl (by simp) rfl (by repeat' first | exact trivial | refine ⟨?_, ?_⟩) ⟨rfl, trivial, rfl, trivial, trivial⟩) ?_
    refine aw_ret ?_
    have hr := Option.some.inj h
    subst hr
    exact ret_objs (.inr rfl) [] (objs' := [.box [.d (.sl false (c_.Currents.map eNatf32)), .d (.sl false (c_.Times.map eNatf32))]]) (new := []) rfl (by simp) (by simp) rfl (by repeat' first | exact trivial | refine ⟨?_, ?_⟩) rfl rfl (by repeat' first | exact trivial | refine ⟨?_, ?_⟩) (fun h => nomatch h) ⟨rfl, rfl, rfl⟩
  · have hc13 := not_f hc13
    have h := if_bt h hc13
    refine aw_skip ?_
    refine aw_seq ?_
    refine aw_seq ?_
    refine aw_region ?_
    refine awl_val hτ rfl rfl rfl ?_
    refine awl_val hτ rfl rfl rfl ?_
    refine awl_val hτ rfl rfl rfl ?_
    refine awl_val hτ rfl rfl rfl ?_
    refine awl_val hτ rfl rfl rfl ?_
    refine awl_val hτ rfl rfl rfl ?_
    refine bnd_elim h fun x16 hx16 h => ?_
    refine awl_elem hτ rfl rfl rfl (getI_some hx16).1 (map_getI hx16) rfl ?_
    refine awl_val hτ rfl rfl rfl ?_
    refine awl_val hτ rfl rfl rfl ?_
    refine awl_nil ?_
    refine aw_weak (weak_ofP [0] (l := [(0, .ptr 0 0), (1, .d (.fl .f32 current_)), (6, .d (.int .i64 (w64 ((c_.Currents.length : Int) - (1 : Int))))), (36, .d (.bool (fcmp .geq .f32 current_ x16)))]) (objs := [.box [.d (.sl false (c_.Currents.map eNatf32)), .d (.sl false (c_.Times.map eNatf32))]]) rfl (by simp) rfl (by repeat' first | exact trivial | refine ⟨?_, ?_⟩) ⟨rfl, trivial, rfl, trivial, rfl, trivial, rfl, trivial, trivial⟩) ?_
    refine aw_cond rfl (fun hc17 => ?_) (fun hc17 => ?_)
    · have h := if_bt h hc17
      refine aw_seq ?_
      refine aw_region ?_
      refine awl_val hτ rfl rfl rfl ?_
      refine awl_val hτ rfl rfl rfl ?_
      refine awl_val hτ rfl rfl rfl ?_
      refine awl_val hτ rfl rfl rfl ?_
      refine awl_val hτ rfl rfl rfl ?_
      refine bnd_elim h fun x18 hx18 h => ?_
      refine awl_elem hτ rfl rfl rfl (getI_some hx18).1 (map_getI hx18) rfl ?_
      refine awl_val hτ rfl rfl rfl ?_
      refine awl_val hτ rfl rfl rfl ?_
      refine awl_val hτ rfl rfl rfl ?_
      refine awl_nil ?_
      refine aw_weak (weak_ofP [0] (l := [(4, .d (.fl .f32 x18)), (5, .d (.bool true))]) (objs := [.box [.d (.sl false (c_.Currents.map eNatf32)), .d (.sl false (c_.Times.map eNatf32))]]) rfl (by simp) rfl (by repeat' first | exact trivial | refine ⟨?_, ?_⟩) ⟨rfl, trivial, rfl, trivial, trivial⟩) ?_
      refine aw_ret ?_
      have hr := Option.some.inj h
      subst hr
      exact ret_objs (.inr rfl) [] (objs' := [.box [.d (.sl false (c_.Currents.map eNatf32)), .d (.sl false (c_.Times.map eNatf32))]]) (new := []) rfl (by simp) (by simp) rfl (by repeat' first | exact trivial | refine ⟨?_, ?_⟩) rfl rfl (by repeat' first | exact trivial | refine ⟨?_, ?_⟩) (fun h => nomatch h) ⟨rfl, rfl, rfl⟩
    · have h := if_bf h hc17
      refine aw_skip ?_
      refine aw_seq ?_
      refine aw_region ?_
      refine awl_val hτ rfl rfl rfl ?_
      refine awl_nil ?_
      refine aw_hk1 (ι := Int) (fun v23 => St.of [(0, .ptr 0 0), (1, .d (.fl .f32 current_)), (7, .d (.int .i64 v23))] [.box [.d (.sl false (c_.Currents.map eNatf32)), .d (.sl false (c_.Times.map eNatf32))]] f65.ntmps 1) (fun v23 => m_impl_Curve_time_j1 n c_ current_ v23 = some r) ?_ (fun hk28 => ?_)
      · rintro v23 h
        replace h : m_impl_Curve_time_j1 n c_ current_ v23 = some r := h
        unfold m_impl_Curve_time_j1 at h
        refine aw_seq ?_
        refine any_start ?_
        refine any_val hτ [] 0 rfl rfl rfl rfl rfl ?_
        refine any_val hτ [] 1 rfl rfl rfl rfl rfl ?_
        refine any_val hτ [0] 2 rfl rfl rfl rfl rfl ?_
        refine any_val hτ [0] 3 rfl rfl rfl rfl rfl ?_
        refine any_val hτ [] 4 rfl rfl rfl rfl rfl ?_
        refine bnd_elim h fun x24 hx24 h => ?_
        refine any_elem hτ [] 5 rfl rfl rfl rfl rfl (getI_some hx24).1 (map_getI hx24) rfl ?_
        refine any_val hτ [] 6 rfl rfl rfl rfl rfl ?_
        refine any_val hτ [] 7 rfl rfl rfl rfl rfl ?_
        refine any_val hτ [] 8 rfl rfl rfl rfl rfl ?_
        refine any_val hτ [0] 9 rfl rfl rfl rfl rfl ?_
        refine any_val hτ [0] 10 rfl rfl rfl rfl rfl ?_
        refine any_val hτ [] 11 rfl rfl rfl rfl rfl ?_
        refine any_val hτ [] 12 rfl rfl rfl rfl rfl ?_
        refine bnd_elim h fun x25 hx25 h => ?_
        refine any_elem hτ [] 13 rfl rfl rfl rfl rfl (getI_some hx25).1 (map_getI hx25) rfl ?_
        refine any_val hτ [] 14 rfl rfl rfl rfl rfl ?_
        refine any_val hτ [] 15 rfl rfl rfl rfl rfl ?_
        refine any_val hτ [] 16 rfl rfl rfl rfl rfl ?_
        refine any_val hτ [0] 17 rfl rfl rfl rfl rfl ?_
        refine any_val hτ [0] 18 rfl rfl rfl rfl rfl ?_
        refine any_val hτ [] 19 rfl rfl rfl rfl rfl ?_
        refine bnd_elim h fun x26 hx26 h => ?_
        refine any_elem hτ [] 20 rfl rfl rfl rfl rfl (getI_some hx26).1 (map_getI hx26) rfl ?_
        refine any_val hτ [] 21 rfl rfl rfl rfl rfl ?_
        refine any_val hτ [] 22 rfl rfl rfl rfl rfl ?_
        refine any_val hτ [] 23 rfl rfl rfl rfl rfl ?_
        refine any_val hτ [0] 24 rfl rfl rfl rfl rfl ?_
        refine any_val hτ [0] 25 rfl rfl rfl rfl rfl ?_
        refine any_val hτ [] 26 rfl rfl rfl rfl rfl ?_
        refine any_val hτ [] 27 rfl rfl rfl rfl rfl ?_
        refine bnd_elim h fun x27 hx27 h => ?_
        refine any_elem hτ [] 28 rfl rfl rfl rfl rfl (getI_some hx27).1 (map_getI hx27) rfl ?_
        refine any_val hτ [] 29 rfl rfl rfl rfl rfl ?_
        refine any_val hτ [] 30 rfl rfl rfl rfl rfl ?_
        refine any_val hτ [] 31 rfl rfl rfl rfl rfl ?_
        refine any_val hτ [] 32 rfl rfl rfl rfl rfl ?_
        refine any_val hτ [] 33 rfl rfl rfl rfl rfl ?_
        refine any_done mixed (by kernel_rfl) ?_
        refine aw_seq ?_
        refine aw_weak (weak_ofP [0] (l := [(1, .d (.fl .f32 current_)), (8, .d (.fl .f32 x24)), (9, .d (.fl .f32 x25)), (10, .d (.fl .f32 x26)), (11, .d (.fl .f32 x27))]) (objs := [.box [.d (.sl false (c_.Currents.map eNatf32)), .d (.sl false (c_.Times.map eNatf32))]]) rfl (by simp) rfl (by repeat' first | exact trivial | refine ⟨?_, ?_⟩) ⟨rfl, trivial, rfl, trivial, rfl, trivial, rfl, trivial, rfl, trivial, trivial⟩) ?_
        refine aw_region ?_
        refine awl_val hτ rfl rfl rfl ?_
        refine awl_val hτ rfl rfl rfl ?_
        refine awl_val hτ rfl rfl rfl ?_
        refine awl_val hτ rfl rfl rfl ?_
        refine awl_val hτ rfl rfl rfl ?_
        refine awl_val hτ rfl rfl rfl ?_
        refine awl_val hτ rfl rfl rfl ?_
        refine awl_val hτ rfl rfl rfl ?_
        refine awl_nil ?_
        refine aw_seq ?_
        refine aw_weak (weak_ofP [0] (l := [(10, .d (.fl .f32 x26)), (11, .d (.fl .f32 x27)), (12, .d (.fl .f32 (farith .quo .f32 (farith .sub .f32 current_ x24) (farith .sub .f32 x25 x24))))]) (objs := [.box [.d (.sl false (c_.Currents.map eNatf32)), .d (.sl false (c_.Times.map eNatf32))]]) rfl (by simp) rfl (by repeat' first | exact trivial | refine ⟨?_, ?_⟩) ⟨rfl, trivial, rfl, trivial, rfl, trivial, trivial⟩) ?_
        refine aw_region ?_
        refine awl_val hτ rfl rfl rfl ?_
        refine awl_val hτ rfl rfl rfl ?_
        refine awl_val hτ rfl rfl rfl ?_
        refine awl_val hτ rfl rfl rfl ?_
        refine awl_val hτ rfl rfl rfl ?_
        refine awl_val hτ rfl rfl rfl ?_
        refine awl_val hτ rfl rfl rfl ?_
        refine awl_val hτ rfl rfl rfl ?_
        refine awl_val hτ rfl rfl rfl ?_
        refine awl_nil ?_
        refine aw_weak (weak_ofP [0] (l := [(4, .d (.fl .f32 (farith .add .f32 x26 (farith .mul .f32 (farith .sub .f32 x27 x26) (farith .quo .f32 (farith .sub .f32 current_ x24) (farith .sub .f32 x25 x24)))))), (5, .d (.bool true))]) (objs := [.box [.d (.sl false (c_.Currents.map eNatf32)), .d (.sl false (c_.Times.map eNatf32))]]) rfl (by simp) rfl (by repeat' first | exact trivial | refine ⟨?_, ?_⟩) ⟨rfl, trivial, rfl, trivial, trivial⟩) ?_
        refine aw_ret ?_
        have hr := Option.some.inj h
        subst hr
        exact ret_objs (.inr rfl) [] (objs' := [.box [.d (.sl false (c_.Currents.map eNatf32)), .d (.sl false (c_.Times.map eNatf32))]]) (new := []) rfl (by simp) (by simp) rfl (by repeat' first | exact trivial | refine ⟨?_, ?_⟩) rfl rfl (by repeat' first | exact trivial | refine ⟨?_, ?_⟩) (fun h => nomatch h) ⟨rfl, rfl, rfl⟩
      · refine aw_seq ?_
        refine aw_block ?_
        refine aw_loop (ι := Nat × Int) (fun (m33, v30) => St.of [(0, .ptr 0 0), (1, .d (.fl .f32 current_)), (7, .d (.int .i64 v30))] [.box [.d (.sl false (c_.Currents.map eNatf32)), .d (.sl false (c_.Times.map eNatf32))]] f65.ntmps 1) (fun (m33, v30) => m_impl_Curve_time_l2 n c_ current_ m33 v30 = some r) (fun x => x.1) (n, (0 : Int)) h (weak_ofP [0] (l := [(0, .ptr 0 0), (1, .d (.fl .f32 current_)), (7, .d (.int .i64 (0 : Int)))]) (objs := [.box [.d (.sl false (c_.Currents.map eNatf32)), .d (.sl false (c_.Times.map eNatf32))]]) rfl (by simp) rfl (by repeat' first | exact trivial | refine ⟨?_, ?_⟩) ⟨rfl, trivial, rfl, trivial, rfl, trivial, trivial⟩) ?_
        rintro ⟨m33, v30⟩ h
        replace h : m_impl_Curve_time_l2 n c_ current_ m33 v30 = some r := h
        rcases m33 with _ | m33
        · rw [m_impl_Curve_time_l2] at h; cases h
        rw [m_impl_Curve_time_l2] at h
        refine aw_seq ?_
        refine aw_seq ?_
        refine aw_region ?_
        refine awl_val hτ rfl rfl rfl ?_
        refine awl_val hτ rfl rfl rfl ?_
        refine awl_val hτ rfl rfl rfl ?_
        refine awl_val hτ rfl rfl rfl ?_
        refine awl_val hτ rfl rfl rfl ?_
        refine awl_val hτ rfl rfl rfl ?_
        refine bnd_elim h fun x36 hx36 h => ?_
        refine awl_elem hτ rfl rfl rfl (getI_some hx36).1 (map_getI hx36) rfl ?_
        refine awl_val hτ rfl rfl rfl ?_
        refine awl_val hτ rfl rfl rfl ?_
        refine awl_val hτ rfl rfl rfl ?_
        refine awl_nil ?_
        refine aw_weak (weak_ofP [0] (l := [(0, .ptr 0 0), (1, .d (.fl .f32 current_)), (7, .d (.int .i64 v30)), (53, .d (.bool (fcmp .leq .f32 x36 current_)))]) (objs := [.box [.d (.sl false (c_.Currents.map eNatf32)), .d (.sl false (c_.Times.map eNatf32))]]) rfl (by simp) rfl (by repeat' first | exact trivial | refine ⟨?_, ?_⟩) ⟨rfl, trivial, rfl, trivial, rfl, trivial, rfl, trivial, trivial⟩) ?_
        refine aw_cond rfl (fun hc37 => ?_) (fun hc37 => ?_)
        · have h := if_bt h hc37
          refine aw_skip ?_
          refine aw_block ?_
          refine aw_region ?_
          refine awl_val hτ rfl rfl rfl ?_
          refine awl_val hτ rfl rfl rfl ?_
          refine awl_val hτ rfl rfl rfl ?_
          refine awl_nil ?_
          exact ⟨(m33, (w64 (v30 + (1 : Int)))), h, Nat.lt_succ_self m33, (weak_ofP [0] (l := [(0, .ptr 0 0), (1, .d (.fl .f32 current_)), (7, .d (.int .i64 (w64 (v30 + (1 : Int)))))]) (objs := [.box [.d (.sl false (c_.Currents.map eNatf32)), .d (.sl false (c_.Times.map eNatf32))]]) rfl (by simp) rfl (by repeat' first | exact trivial | refine ⟨?_, ?_⟩) ⟨rfl, trivial, rfl, trivial, rfl, trivial, trivial⟩)⟩
        · have h := if_bf h hc37
          refine aw_exit ?_
          refine aw_weak (weak_ofP [0] (l := [(0, .ptr 0 0), (1, .d (.fl .f32 current_)), (7, .d (.int .i64 v30))]) (objs := [.box [.d (.sl false (c_.Currents.map eNatf32)), .d (.sl false (c_.Times.map eNatf32))]]) rfl (by simp) rfl (by repeat' first | exact trivial | refine ⟨?_, ?_⟩) ⟨rfl, trivial, rfl, trivial, rfl, trivial, trivial⟩) ?_
          exact hk28 v30 h

def m_impl_TimeAt (n : Nat) (c_ : SCurve) (current_ : Nat) : Option (Nat × Bool) :=
  (m_impl_ValidCurve n c_).bind fun x4 =>
  if x4 = true then
    (m_impl_Curve_time n c_ current_).bind fun x6 =>
    some (x6.1, x6.2)
  else
    some ((0 : Nat), false)
theorem impl_TimeAt_ok_fr0 (fr : Bool) (n : Nat) (c_ : SCurve) (current_ : Nat) {r : Nat × Bool} (h : m_impl_TimeAt n c_ current_ = some r) : ACall prog fr 28 [.agg [.d (.sl false (c_.Currents.map eNatf32)), .d (.sl false (c_.Times.map eNatf32))], .d (.fl .f32 current_)] [] (fun v o new => v = .tup [.d (.fl .f32 r.1), .d (.bool r.2)] ∧ o = [] ∧ new = []) := by
  refine acall_of_aw hτ func28 rfl (by simp) (by simp) ?_
  unfold m_impl_TimeAt at h
  refine aw_seq ?_
  refine aw_region ?_
  refine awl_valH hτ rfl rfl rfl ?_
  refine awl_val hτ rfl rfl rfl ?_
  refine awl_val hτ rfl rfl rfl ?_
  refine awl_nil ?_
  refine aw_seq ?_
  refine aw_seq ?_
  refine aw_region ?_
  refine awl_val hτ rfl rfl rfl ?_
  refine bnd_elim h fun x4 hx4 h => ?_
  refine awl_callP hτ false [] rfl rfl rfl (enterOk func33 rfl rfl) rfl rfl (by simp) ⟨(by repeat' first | exact trivial | refine ⟨?_, ?_⟩), trivial⟩ (by repeat' first | exact trivial | refine ⟨?_, ?_⟩) (impl_ValidCurve_ok n c_ hx4) ?_
  rintro r0 o0 n0 ⟨rfl, rfl, rfl⟩ -
  refine awl_val hτ rfl rfl rfl ?_
  refine awl_nil ?_
  refine aw_weak (weak_ofP [0] (l := [(1, .d (.fl .f32 current_)), (2, .ptr 0 0), (8, .d (.bool (!x4)))]) (objs := [.box [.d (.sl false (c_.Currents.map eNatf32)), .d (.sl false (c_.Times.map eNatf32))]]) rfl (by simp) rfl (by repeat' first | exact trivial | refine ⟨?_, ?_⟩) ⟨rfl, trivial, rfl, trivial, rfl, trivial, trivial⟩) ?_
  refine aw_cond rfl (fun hc5 => ?_) (fun hc5 => ?_)
  · have hc5 := not_t hc5
    have h := if_bf h hc5
    refine aw_seq ?_
    refine aw_region ?_
    refine awl_val hτ rfl rfl rfl ?_
    refine awl_val hτ rfl rfl rfl ?_
    refine awl_nil ?_
    refine aw_weak (weak_ofP [] (l := [(4, .d (.fl .f32 (0 : Nat))), (5, .d (.bool false))]) (objs := []) rfl (by simp) rfl (by repeat' first | exact trivial | refine ⟨?_, ?_⟩) ⟨rfl, trivial, rfl, trivial, trivial⟩) ?_
    refine aw_ret ?_
    have hr := Option.some.inj h
    subst hr
    exact ret_objs (.inr rfl) [] (objs' := []) (new := []) rfl (by simp) (by simp) rfl (by repeat' first | exact trivial | refine ⟨?_, ?_⟩) rfl rfl (by repeat' first | exact trivial | refine ⟨?_, ?_⟩) (fun _ => ⟨by simp [V.flat, V.flatA, V.flatC, D.flat], flat_nil⟩) ⟨rfl, rfl, rfl⟩
  · have hc5 := not_f hc5
    have h := if_bt h hc5
    refine aw_skip ?_
    refine aw_seq ?_
    refine aw_region ?_
    refine awl_val hτ rfl rfl rfl ?_
    refine bnd_elim h fun x6 hx6 h => ?_
    refine awl_callP hτ false [0] rfl rfl rfl (enterOk func65 rfl rfl) rfl rfl (by simp) ⟨trivial, trivial, trivial⟩ (by repeat' first | exact trivial | refine ⟨?_, ?_⟩) (impl_Curve_time_ok n c_ current_ hx6) ?_
    rintro r0 o0 n0 ⟨rfl, rfl, rfl⟩ -
    refine awl_val hτ rfl rfl rfl ?_
    refine awl_val hτ rfl rfl rfl ?_
    refine awl_val hτ rfl rfl rfl ?_
    refine awl_val hτ rfl rfl rfl ?_
    refine awl_nil ?_
    refine aw_weak (weak_ofP [] (l := [(4, .d (.fl .f32 x6.1)), (5, .d (.bool x6.2))]) (objs := []) rfl (by simp) rfl (by repeat' first | exact trivial | refine ⟨?_, ?_⟩) ⟨rfl, trivial, rfl, trivial, trivial⟩) ?_
    refine aw_ret ?_
    have hr := Option.some.inj h
    subst hr
    exact ret_objs (.inr rfl) [] (objs' := []) (new := []) rfl (by simp) (by simp) rfl (by repeat' first | exact trivial | refine ⟨?_, ?_⟩) rfl rfl (by repeat' first | exact trivial | refine ⟨?_, ?_⟩) (fun _ => ⟨by simp [V.flat, V.flatA, V.flatC, D.flat], flat_nil⟩) ⟨rfl, rfl, rfl⟩
theorem impl_TimeAt_ok (n : Nat) (c_ : SCurve) (current_ : Nat) {r : Nat × Bool} (h : m_impl_TimeAt n c_ current_ = some r) : ACall prog false 28 [.agg [.d (.sl false (c_.Currents.map eNatf32)), .d (.sl false (c_.Times.map eNatf32))], .d (.fl .f32 current_)] [] (fun v o new => v = .tup [.d (.fl .f32 r.1), .d (.bool r.2)] ∧ o = [] ∧ new = []) := impl_TimeAt_ok_fr0 false n c_ current_ h
theorem impl_TimeAt_ok_fr (n : Nat) (c_ : SCurve) (current_ : Nat) {r : Nat × Bool} (h : m_impl_TimeAt n c_ current_ = some r) : ACall prog true 28 [.agg [.d (.sl false (c_.Currents.map eNatf32)), .d (.sl false (c_.Times.map eNatf32))], .d (.fl .f32 current_)] [] (fun v o new => v = .tup [.d (.fl .f32 r.1), .d (.bool r.2)] ∧ o = [] ∧ new = []) := impl_TimeAt_ok_fr0 true n c_ current_ h

def m_laws_b10At (n : Nat) (code_ : List Int) (i_ : Int) (n_ : Int) : Option Int :=
  if n_ ≤ (1 : Int) then
    some (0 : Int)
  else
    if i_ < (code_.length : Int) then
      (getI code_ i_).bind fun x8 =>
      grd (n_ ≠ 0) <|
      some ((w64 (x8)).tmod n_)
    else
      grd (n_ ≠ 0) <|
      some ((w64 ((w64 (i_ * (37 : Int))) + (11 : Int))).tmod n_)
theorem laws_b10At_ok_fr0 (fr : Bool) (n : Nat) (code_ : List Int) (i_ : Int) (n_ : Int) {r : Int} (h : m_laws_b10At n code_ i_ n_ = some r) : ACall prog fr 9 [.d (.sl false (code_.map eIntu8)), .d (.int .i64 i_), .d (.int .i64 n_)] [] (fun v o new => v = .d (.int .i64 r) ∧ o = [] ∧ new = []) := by
  refine acall_of_aw hτ func9 rfl (by simp) (by simp) ?_
  unfold m_laws_b10At at h
  refine aw_seq ?_
  refine aw_region ?_
  refine awl_val hτ rfl rfl rfl ?_
  refine awl_nil ?_
  refine aw_seq ?_
  refine aw_seq ?_
  refine aw_region ?_
  refine awl_val hτ rfl rfl rfl ?_
  refine awl_val hτ rfl rfl rfl ?_
  refine awl_nil ?_
  refine aw_cond rfl (fun hc4 => ?_) (fun hc4 => ?_)
  · have h := if_t h hc4
    refine aw_seq ?_
    refine aw_region ?_
    refine awl_val hτ rfl rfl rfl ?_
    refine awl_nil ?_
    refine aw_weak (weak_ofP [] (l := [(6, .d (.int .i64 (0 : Int)))]) (objs := []) rfl (by simp) rfl (by repeat' first | exact trivial | refine ⟨?_, ?_⟩) ⟨rfl, trivial, trivial⟩) ?_
    refine aw_ret ?_
    have hr := Option.some.inj h
    subst hr
    exact ret_objs (.inr rfl) [] (objs' := []) (new := []) rfl (by simp) (by simp) rfl (by repeat' first | exact trivial | refine ⟨?_, ?_⟩) rfl rfl (by repeat' first | exact trivial | refine ⟨?_, ?_⟩) (fun _ => ⟨by simp [V.flat, V.flatA, V.flatC, D.flat], flat_nil⟩) ⟨rfl, rfl, rfl⟩
  · have h := if_f h hc4
    refine aw_skip ?_
    refine aw_seq ?_
    refine aw_seq ?_
    refine aw_region ?_
    refine awl_val hτ rfl rfl rfl ?_
    refine awl_val hτ rfl rfl rfl ?_
    refine awl_val hτ (v := .d (.int .i64 (code_.length : Int))) rfl rfl (Eq.trans rfl (or_len (f := eIntu8) code_)) ?_
    refine awl_val hτ rfl rfl rfl ?_
    refine awl_nil ?_
    refine aw_weak (weak_ofP [] (l := [(0, .d (.sl false (code_.map eIntu8))), (1, .d (.int .i64 i_)), (2, .d (.int .i64 n_)), (12, .d (.bool (decide (i_ < (code_.length : Int)))))]) (objs := []) rfl (by simp) rfl (by repeat' first | exact trivial | refine ⟨?_, ?_⟩) ⟨rfl, trivial, rfl, trivial, rfl, trivial, rfl, trivial, trivial⟩) ?_
    refine aw_cond rfl (fun hc7 => ?_) (fun hc7 => ?_)
    · have h := if_t h hc7
      refine aw_seq ?_
      refine aw_region ?_
      refine awl_val hτ rfl rfl rfl ?_
      refine awl_val hτ rfl rfl rfl ?_
      refine bnd_elim h fun x8 hx8 h => ?_
      refine awl_elem hτ rfl rfl rfl (getI_some hx8).1 (map_getI hx8) rfl ?_
      refine awl_val hτ rfl rfl rfl ?_
      refine awl_val hτ rfl rfl rfl ?_
      refine awl_val hτ rfl rfl rfl ?_
      refine grd_elim h fun hg9 h => ?_
      refine awl_need hτ rfl rfl rfl hg9 ?_
      refine awl_val hτ rfl rfl rfl ?_
      refine awl_nil ?_
      refine aw_weak (weak_ofP [] (l := [(6, .d (.int .i64 ((w64 (x8)).tmod n_)))]) (objs := []) rfl (by simp) rfl (by repeat' first | exact trivial | refine ⟨?_, ?_⟩) ⟨rfl, trivial, trivial⟩) ?_
      refine aw_ret ?_
      have hr := Option.some.inj h
      subst hr
      exact ret_objs (.inr rfl) [] (objs' := []) (new := []) rfl (by simp) (by simp) rfl (by repeat' first | exact trivial | refine ⟨?_, ?_⟩) rfl rfl (by repeat' first | exact trivial | refine ⟨?_, ?_⟩) (fun _ => ⟨by simp [V.flat, V.flatA, V.flatC, D.flat], flat_nil⟩) ⟨rfl, rfl, rfl⟩
    · have h := if_f h hc7
      refine aw_skip ?_
      refine aw_seq ?_
      refine aw_region ?_
      refine awl_val hτ rfl rfl rfl ?_
      refine awl_val hτ rfl rfl rfl ?_
      refine awl_val hτ rfl rfl rfl ?_
      refine awl_val hτ rfl rfl rfl ?_
      refine grd_elim h fun hg10 h => ?_
      refine awl_need hτ rfl rfl rfl hg10 ?_
      refine awl_val hτ rfl rfl rfl ?_
      refine awl_nil ?_
      refine aw_weak (weak_ofP [] (l := [(6, .d (.int .i64 ((w64 ((w64 (i_ * (37 : Int))) + (11 : Int))).tmod n_)))]) (objs := []) rfl (by simp) rfl (by repeat' first | exact trivial | refine ⟨?_, ?_⟩) ⟨rfl, trivial, trivial⟩) ?_
      refine aw_ret ?_
      have hr := Option.some.inj h
      subst hr
      exact ret_objs (.inr rfl) [] (objs' := []) (new := []) rfl (by simp) (by simp) rfl (by repeat' first | exact trivial | refine ⟨?_, ?_⟩) rfl rfl (by repeat' first | exact trivial | refine ⟨?_, ?_⟩) (fun _ => ⟨by simp [V.flat, V.flatA, V.flatC, D.flat], flat_nil⟩) ⟨rfl, rfl, rfl⟩
theorem laws_b10At_ok (n : Nat) (code_ : List Int) (i_ : Int) (n_ : Int) {r : Int} (h : m_laws_b10At n code_ i_ n_ = some r) : ACall prog false 9 [.d (.sl false (code_.map eIntu8)), .d (.int .i64 i_), .d (.int .i64 n_)] [] (fun v o new => v = .d (.int .i64 r) ∧ o = [] ∧ new = []) := laws_b10At_ok_fr0 false n code_ i_ n_ h
theorem laws_b10At_ok_fr (n : Nat) (code_ : List Int) (i_ : Int) (n_ : Int) {r : Int} (h : m_laws_b10At n code_ i_ n_ = some r) : ACall prog true 9 [.d (.sl false (code_.map eIntu8)), .d (.int .i64 i_), .d (.int .i64 n_)] [] (fun v o new => v = .d (.int .i64 r) ∧ o = [] ∧ new = []) := laws_b10At_ok_fr0 true n code_ i_ n_ h

def m_impl_scaled_l1 (n : Nat) (list_ : List Nat) (by_ : Nat) : Nat → List Nat → Int → Option (List Nat)
  | 0, _, _ => none
  | m17 + 1, v11, v12 =>
    if v12 < (list_.length : Int) then
      (getI list_ v12).bind fun x20 =>
      grd (room (v11.length + 1) 4) <|
      (m_impl_scaled_l1 n list_ by_ m17) (v11 ++ [(farith .mul .f32 x20 by_)]) (w64 (v12 + (1 : Int)))
    else
      some v11
def m_impl_scaled (n : Nat) (list_ : List Nat) (by_ : Nat) : Option (List Nat) :=
  m_impl_scaled_l1 n list_ by_ n ([] : List Nat) (0 : Int)
theorem impl_scaled_ok_fr0 (fr : Bool) (n : Nat) (list_ : List Nat) (by_ : Nat) {r : List Nat} (h : m_impl_scaled n list_ by_ = some r) : ACall prog fr 66 [.d (.sl false (list_.map eNatf32)), .d (.fl .f32 by_)] [] (fun v o new => v = .row 0 r.length 0 r.length ∧ o = [] ∧ new = [.row 1 (r.map eNatf32)]) := by
  refine acall_of_aw hτ func66 rfl (by simp) (by simp) ?_
  unfold m_impl_scaled at h
  refine aw_seq ?_
  refine aw_region ?_
  refine awl_val hτ rfl rfl rfl ?_
  refine awl_nil ?_
  refine aw_seq ?_
  refine aw_region ?_
  refine awl_valH hτ rfl rfl rfl ?_
  refine awl_val hτ rfl rfl rfl ?_
  refine awl_nil ?_
  refine aw_seq ?_
  refine aw_seq ?_
  refine aw_region ?_
  refine awl_val hτ rfl rfl rfl ?_
  refine awl_val hτ (v := .d (.int .i64 (list_.length : Int))) rfl rfl (Eq.trans rfl (or_len (f := eNatf32) list_)) ?_
  refine awl_val hτ rfl rfl rfl ?_
  refine awl_nil ?_
  refine aw_block ?_
  refine aw_loop (ι := Nat × List Nat × Int) (fun (m17, v11, v12) => St.of [(1, .d (.fl .f32 by_)), (5, .row 0 v11.length 0 v11.length), (9, .d (.sl false (list_.map eNatf32))), (10, .d (.int .i64 (list_.length : Int))), (11, .d (.int .i64 v12))] [.row 1 (v11.map eNatf32)] f66.ntmps 0) (fun (m17, v11, v12) => m_impl_scaled_l1 n list_ by_ m17 v11 v12 = some r) (fun x => x.1) (n, ([] : List Nat), (0 : Int)) h (weak_ofP [0] (l := [(1, .d (.fl .f32 by_)), (5, .row 0 (([] : List Nat).length) 0 (([] : List Nat).length)), (9, .d (.sl false (list_.map eNatf32))), (10, .d (.int .i64 (list_.length : Int))), (11, .d (.int .i64 (0 : Int)))]) (objs := [.row 1 (([] : List Nat).map eNatf32)]) rfl (by simp) rfl (by repeat' first | exact trivial | refine ⟨?_, ?_⟩) ⟨rfl, trivial, rfl, trivial, rfl, trivial, rfl, trivial, rfl, trivial, trivial⟩) ?_
  rintro ⟨m17, v11, v12⟩ h
  replace h : m_impl_scaled_l1 n list_ by_ m17 v11 v12 = some r := h
  rcases m17 with _ | m17
  · rw [m_impl_scaled_l1] at h; cases h
  rw [m_impl_scaled_l1] at h
  refine aw_seq ?_
  refine aw_region ?_
  refine awl_val hτ rfl rfl rfl ?_
  refine awl_nil ?_
  refine aw_seq ?_
  refine aw_cond rfl (fun hc19 => ?_) (fun hc19 => ?_)
  · have h := if_t h hc19
    refine aw_skip ?_
    refine aw_seq ?_
    refine aw_block ?_
    refine aw_seq ?_
    refine aw_region ?_
    refine bnd_elim h fun x20 hx20 h => ?_
    refine awl_elem hτ rfl rfl rfl (getI_some hx20).1 (map_getI hx20) rfl ?_
    refine awl_val hτ rfl rfl rfl ?_
    refine awl_val hτ rfl rfl rfl ?_
    refine awl_nil ?_
    refine aw_region ?_
    refine awl_val hτ rfl rfl rfl ?_
    refine awl_val hτ rfl rfl rfl ?_
    refine awl_val hτ rfl rfl rfl ?_
    refine awl_val hτ rfl rfl rfl ?_
    refine awl_valH hτ rfl rfl rfl ?_
    refine grd_elim h fun hg21 h => ?_
    refine awl_needH hτ rfl rfl (Eq.trans rfl (or_append (f := eNatf32) v11 [(farith .mul .f32 x20 by_)] rfl)) ⟨⟨rfl, Nat.le_of_ble_eq_true rfl⟩, len_map _, rfl, rfl, hg21, by decide, (all1 rfl)⟩ ?_
    refine awl_val hτ rfl rfl rfl ?_
    refine awl_nil ?_
    refine aw_weak (weak_ofP [0] (l := [(1, .d (.fl .f32 by_)), (5, .row 0 ((v11 ++ [(farith .mul .f32 x20 by_)]).length) 0 ((v11 ++ [(farith .mul .f32 x20 by_)]).length)), (9, .d (.sl false (list_.map eNatf32))), (10, .d (.int .i64 (list_.length : Int))), (11, .d (.int .i64 v12))]) (objs := [.row 1 ((v11 ++ [(farith .mul .f32 x20 by_)]).map eNatf32)]) rfl (by simp) rfl (by repeat' first | exact trivial | refine ⟨?_, ?_⟩) ⟨rfl, trivial, rfl, trivial, rfl, trivial, rfl, trivial, rfl, trivial, trivial⟩) ?_
    refine aw_region ?_
    refine awl_val hτ rfl rfl rfl ?_
    refine awl_val hτ rfl rfl rfl ?_
    refine awl_nil ?_
    exact ⟨(m17, (v11 ++ [(farith .mul .f32 x20 by_)]), (w64 (v12 + (1 : Int)))), h, Nat.lt_succ_self m17, (weak_ofP [0] (l := [(1, .d (.fl .f32 by_)), (5, .row 0 ((v11 ++ [(farith .mul .f32 x20 by_)]).length) 0 ((v11 ++ [(farith .mul .f32 x20 by_)]).length)), (9, .d (.sl false (list_.map eNatf32))), (10, .d (.int .i64 (list_.length : Int))), (11, .d (.int .i64 (w64 (v12 + (1 : Int)))))]) (objs := [.row 1 ((v11 ++ [(farith .mul .f32 x20 by_)]).map eNatf32)]) rfl (by simp) rfl (by repeat' first | exact trivial | refine ⟨?_, ?_⟩) ⟨rfl, trivial, rfl, trivial, rfl, trivial, rfl, trivial, rfl, trivial, trivial⟩)⟩
  · have h := if_f h hc19
    refine aw_exit ?_
    refine aw_seq ?_
    refine aw_region ?_
    refine awl_val hτ rfl rfl rfl ?_
    refine awl_val hτ rfl rfl rfl ?_
    refine awl_nil ?_
    refine aw_weak (weak_ofP [0] (l := [(4, .row 0 v11.length 0 v11.length)]) (objs := [.row 1 (v11.map eNatf32)]) rfl (by simp) rfl (by repeat' first | exact trivial | refine ⟨?_, ?_⟩) ⟨rfl, trivial, trivial⟩) ?_
    refine aw_ret ?_
    have hr := Option.some.inj h
    subst hr
    exact ret_objs (.inr rfl) [0] (objs' := []) (new := [.row 1 (v11.map eNatf32)]) rfl (by simp) (by simp) rfl (by repeat' first | exact trivial | refine ⟨?_, ?_⟩) rfl rfl (by repeat' first | exact trivial | refine ⟨?_, ?_⟩) (fun _ => ⟨by simp [V.flat, V.flatA, V.flatC, D.flat], (flat_cons (flat_row eNatf32_flat _) flat_nil)⟩) ⟨rfl, rfl, rfl⟩
theorem impl_scaled_ok (n : Nat) (list_ : List Nat) (by_ : Nat) {r : List Nat} (h : m_impl_scaled n list_ by_ = some r) : ACall prog false 66 [.d (.sl false (list_.map eNatf32)), .d (.fl .f32 by_)] [] (fun v o new => v = .row 0 r.length 0 r.length ∧ o = [] ∧ new = [.row 1 (r.map eNatf32)]) := impl_scaled_ok_fr0 false n list_ by_ h
theorem impl_scaled_ok_fr (n : Nat) (list_ : List Nat) (by_ : Nat) {r : List Nat} (h : m_impl_scaled n list_ by_ = some r) : ACall prog true 66 [.d (.sl false (list_.map eNatf32)), .d (.fl .f32 by_)] [] (fun v o new => v = .row 0 r.length 0 r.length ∧ o = [] ∧ new = [.row 1 (r.map eNatf32)]) := impl_scaled_ok_fr0 true n list_ by_ h

def m_impl_ScaleCurve_j2 (n : Nat) (v17 : List Nat) (v18 : List Nat) : Option (SCurve × Bool) :=
  some ((SCurve.mk v17 v18), true)
def m_impl_ScaleCurve_j3 (n : Nat) (v17 : List Nat) (v18 : List Nat) (v28 : Bool) : Option (SCurve × Bool) :=
  if v28 = true then
    some ((SCurve.mk ([] : List Nat) ([] : List Nat)), false)
  else
    m_impl_ScaleCurve_j2 n v17 v18
def m_impl_ScaleCurve_j1 (n : Nat) (c_ : SCurve) (v17 : List Nat) (v18 : List Nat) : Option (SCurve × Bool) :=
  (m_impl_ValidCurve n c_).bind fun x31 =>
  if x31 = true then
    (m_impl_ValidCurve n (SCurve.mk v17 v18)).bind fun x33 =>
    m_impl_ScaleCurve_j3 n v17 v18 (!x33)
  else
    m_impl_ScaleCurve_j3 n v17 v18 true
def m_impl_ScaleCurve (n : Nat) (c_ : SCurve) (currents_ : Nat) (times_ : Nat) : Option (SCurve × Bool) :=
  (m_impl_scaled n c_.Currents currents_).bind fun x35 =>
  (m_impl_scaled n c_.Times times_).bind fun x36 =>
  m_impl_ScaleCurve_j1 n c_ x35 x36
theorem impl_ScaleCurve_ok_fr0 (fr : Bool) (n : Nat) (c_ : SCurve) (currents_ : Nat) (times_ : Nat) {r : SCurve × Bool} (h : m_impl_ScaleCurve n c_ currents_ times_ = some r) : ACall prog fr 29 [.agg [.d (.sl false (c_.Currents.map eNatf32)), .d (.sl false (c_.Times.map eNatf32))], .d (.fl .f32 currents_), .d (.fl .f32 times_)] [] (fun v o new => v = .tup [.agg [.row 0 r.1.Currents.length 0 r.1.Currents.length, .row 1 r.1.Times.length 0 r.1.Times.length], .d (.bool r.2)] ∧ o = [] ∧ new = [.row 1 (r.1.Currents.map eNatf32), .row 1 (r.1.Times.map eNatf32)]) := by
  refine acall_of_aw hτ func29 rfl (by simp) (by simp) ?_
  unfold m_impl_ScaleCurve at h
  refine aw_seq ?_
  refine aw_region ?_
  refine awl_valH hτ rfl rfl rfl ?_
  refine awl_valH hτ rfl rfl rfl ?_
  refine awl_val hτ rfl rfl rfl ?_
  refine awl_nil ?_
  refine aw_hk1 (ι := List Nat × List Nat) (fun (v17, v18) => St.of [(3, .ptr 0 0), (6, .ptr 1 0), (8, .ptr 2 0)] [.box [.d (.sl false (c_.Currents.map eNatf32)), .d (.sl false (c_.Times.map eNatf32))], .box [.d (.nils), .d (.nils)], .box [.row 3 v17.length 0 v17.length, .row 4 v18.length 0 v18.length], .row 1 (v17.map eNatf32), .row 1 (v18.map eNatf32)] f29.ntmps 0) (fun (v17, v18) => m_impl_ScaleCurve_j1 n c_ v17 v18 = some r) ?_ (fun hk34 => ?_)
  · rintro ⟨v17, v18⟩ h
    replace h : m_impl_ScaleCurve_j1 n c_ v17 v18 = some r := h
    unfold m_impl_ScaleCurve_j1 at h
    refine aw_hk1 (ι := Unit) (fun _ => St.of [(6, .ptr 0 0), (8, .ptr 1 0)] [.box [.d (.nils), .d (.nils)], .box [.row 2 v17.length 0 v17.length, .row 3 v18.length 0 v18.length], .row 1 (v17.map eNatf32), .row 1 (v18.map eNatf32)] f29.ntmps 0) (fun _ => m_impl_ScaleCurve_j2 n v17 v18 = some r) ?_ (fun hk23 => ?_)
    · rintro ⟨⟩ h
      replace h : m_impl_ScaleCurve_j2 n v17 v18 = some r := h
      unfold m_impl_ScaleCurve_j2 at h
      refine aw_seq ?_
      refine aw_region ?_
      refine awl_val hτ rfl rfl rfl ?_
      refine awl_valH hτ rfl rfl rfl ?_
      refine awl_val hτ rfl rfl rfl ?_
      refine awl_nil ?_
      refine aw_weak (weak_ofP [0, 2, 3] (l := [(6, .ptr 0 0), (7, .d (.bool true))]) (objs := [.box [.row 1 v17.length 0 v17.length, .row 2 v18.length 0 v18.length], .row 1 (v17.map eNatf32), .row 1 (v18.map eNatf32)]) rfl (by simp) rfl (by repeat' first | exact trivial | refine ⟨?_, ?_⟩) ⟨rfl, trivial, rfl, trivial, trivial⟩) ?_
      refine aw_ret ?_
      have hr := Option.some.inj h
      subst hr
      exact ret_objs (.inr rfl) [1, 2] (objs' := []) (new := [.row 1 (v17.map eNatf32), .row 1 (v18.map eNatf32)]) rfl (by simp) (by simp) rfl (by repeat' first | exact trivial | refine ⟨?_, ?_⟩) rfl rfl (by repeat' first | exact trivial | refine ⟨?_, ?_⟩) (fun _ => ⟨by simp [V.flat, V.flatA, V.flatC, D.flat], (flat_cons (flat_row eNatf32_flat _) (flat_cons (flat_row eNatf32_flat _) flat_nil))⟩) ⟨rfl, rfl, rfl⟩
    · refine aw_seq ?_
      refine aw_hk1 (ι := Bool) (fun v28 => St.of [(6, .ptr 0 0), (8, .ptr 1 0), (25, .d (.bool v28))] [.box [.d (.nils), .d (.nils)], .box [.row 2 v17.length 0 v17.length, .row 3 v18.length 0 v18.length], .row 1 (v17.map eNatf32), .row 1 (v18.map eNatf32)] f29.ntmps 0) (fun v28 => m_impl_ScaleCurve_j3 n v17 v18 v28 = some r) ?_ (fun hk30 => ?_)
      · rintro v28 h
        replace h : m_impl_ScaleCurve_j3 n v17 v18 v28 = some r := h
        unfold m_impl_ScaleCurve_j3 at h
        refine aw_cond rfl (fun hc29 => ?_) (fun hc29 => ?_)
        · have h := if_bt h hc29
          refine aw_seq ?_
          refine aw_region ?_
          refine awl_val hτ rfl rfl rfl ?_
          refine awl_valH hτ rfl rfl rfl ?_
          refine awl_val hτ rfl rfl rfl ?_
          refine awl_nil ?_
          refine aw_weak (weak_ofP [0] (l := [(6, .ptr 0 0), (7, .d (.bool false))]) (objs := [.box [.d (.nils), .d (.nils)]]) rfl (by simp) rfl (by repeat' first | exact trivial | refine ⟨?_, ?_⟩) ⟨rfl, trivial, rfl, trivial, trivial⟩) ?_
          refine aw_weak (weak_relax [1, 1] (l' := [(6, .ptr 0 0), (7, .d (.bool false))]) (objs' := [.box [.row 1 (([] : List Nat).length) 0 (([] : List Nat).length), .row 2 (([] : List Nat).length) 0 (([] : List Nat).length)]]) (.cons (.c (.refl _)) (.cons (.c (.refl _)) .nil)) (.cons (.box (.cons (.ghost ⟨Nat.le_of_ble_eq_true rfl, Nat.le_of_ble_eq_true rfl⟩) (.cons (.ghost ⟨Nat.le_of_ble_eq_true rfl, Nat.le_of_ble_eq_true rfl⟩) .nil))) .nil)) ?_
          refine aw_ret ?_
          have hr := Option.some.inj h
          subst hr
          exact ret_objs (.inr rfl) [1, 2] (objs' := []) (new := [.row 1 (([] : List Nat).map eNatf32), .row 1 (([] : List Nat).map eNatf32)]) rfl (by simp) (by simp) rfl (by repeat' first | exact trivial | refine ⟨?_, ?_⟩) rfl rfl (by repeat' first | exact trivial | refine ⟨?_, ?_⟩) (fun _ => ⟨by simp [V.flat, V.flatA, V.flatC, D.flat], (flat_cons (flat_row eNatf32_flat _) (flat_cons (flat_row eNatf32_flat _) flat_nil))⟩) ⟨rfl, rfl, rfl⟩
        · have h := if_bf h hc29
          refine aw_skip ?_
          refine aw_weak (weak_ofP [0, 1, 2, 3] (l := [(6, .ptr 0 0), (8, .ptr 1 0)]) (objs := [.box [.d (.nils), .d (.nils)], .box [.row 2 v17.length 0 v17.length, .row 3 v18.length 0 v18.length], .row 1 (v17.map eNatf32), .row 1 (v18.map eNatf32)]) rfl (by simp) rfl (by repeat' first | exact trivial | refine ⟨?_, ?_⟩) ⟨rfl, trivial, rfl, trivial, trivial⟩) ?_
          exact hk23 () h
      · refine aw_seq ?_
        refine aw_region ?_
        refine awl_val hτ rfl rfl rfl ?_
        refine bnd_elim h fun x31 hx31 h => ?_
        refine awl_callP hτ false [] rfl rfl rfl (enterOk func33 rfl rfl) rfl rfl (by simp) ⟨(by repeat' first | exact trivial | refine ⟨?_, ?_⟩), trivial⟩ (by repeat' first | exact trivial | refine ⟨?_, ?_⟩) (impl_ValidCurve_ok n c_ hx31) ?_
        rintro r0 o0 n0 ⟨rfl, rfl, rfl⟩ -
        refine awl_val hτ rfl rfl rfl ?_
        refine awl_val hτ rfl rfl rfl ?_
        refine awl_split 21 rfl (fun hb32 => ?_) (fun hb32 => ?_)
        · have hb32 := not_t hb32
          have h := if_bf h hb32
          refine awl_skip rfl rfl ?_
          refine awl_skip rfl rfl ?_
          refine awl_skip rfl rfl ?_
          refine awl_val hτ rfl rfl rfl ?_
          refine awl_nil ?_
          refine aw_weak (weak_ofP [1, 2, 3, 4] (l := [(6, .ptr 0 0), (8, .ptr 1 0), (25, .d (.bool true))]) (objs := [.box [.d (.nils), .d (.nils)], .box [.row 2 v17.length 0 v17.length, .row 3 v18.length 0 v18.length], .row 1 (v17.map eNatf32), .row 1 (v18.map eNatf32)]) rfl (by simp) rfl (by repeat' first | exact trivial | refine ⟨?_, ?_⟩) ⟨rfl, trivial, rfl, trivial, rfl, trivial, trivial⟩) ?_
          exact hk30 true h
        · have hb32 := not_f hb32
          have h := if_bt h hb32
          refine awl_val hτ rfl rfl rfl ?_
          refine awl_weak (weak_ofP [1, 2, 3, 4] (l := [(6, .ptr 0 0), (8, .ptr 1 0), (21, .d (.bool false)), (22, .agg [.row 2 v17.length 0 v17.length, .row 3 v18.length 0 v18.length])]) (objs := [.box [.d (.nils), .d (.nils)], .box [.row 2 v17.length 0 v17.length, .row 3 v18.length 0 v18.length], .row 1 (v17.map eNatf32), .row 1 (v18.map eNatf32)]) rfl (by simp) rfl (by repeat' first | exact trivial | refine ⟨?_, ?_⟩) ⟨rfl, trivial, rfl, trivial, rfl, trivial, rfl, (by repeat' first | exact trivial | refine ⟨?_, ?_⟩), trivial⟩) ?_
          refine bnd_elim h fun x33 hx33 h => ?_
          refine awl_callP hτ true [] rfl rfl rfl (enterOk func33 rfl rfl) (mapO_cons (exV_agg (mapO_cons (exC_view (f := eNatf32) v17 rfl rfl rfl) (mapO_cons (exC_view (f := eNatf32) v18 rfl rfl rfl) mapO_nil))) mapO_nil) rfl (by simp) ⟨⟨(exP_view (f := eNatf32) v17 rfl rfl rfl), (exP_view (f := eNatf32) v18 rfl rfl rfl)⟩, trivial⟩ (by repeat' first | exact trivial | refine ⟨?_, ?_⟩) (impl_ValidCurve_ok_fr n (SCurve.mk v17 v18) hx33) ?_
          rintro r0 o0 n0 ⟨rfl, rfl, rfl⟩ -
          refine awl_val hτ rfl rfl rfl ?_
          refine awl_val hτ rfl rfl rfl ?_
          refine awl_nil ?_
          refine aw_weak (weak_ofP [0, 1, 2, 3] (l := [(6, .ptr 0 0), (8, .ptr 1 0), (25, .d (.bool (!x33)))]) (objs := [.box [.d (.nils), .d (.nils)], .box [.row 2 v17.length 0 v17.length, .row 3 v18.length 0 v18.length], .row 1 (v17.map eNatf32), .row 1 (v18.map eNatf32)]) rfl (by simp) rfl (by repeat' first | exact trivial | refine ⟨?_, ?_⟩) ⟨rfl, trivial, rfl, trivial, rfl, trivial, trivial⟩) ?_
          exact hk30 (!x33) h
  · refine aw_seq ?_
    refine any_startF mixed ?_
    refine any_val hτ [0] 0 rfl rfl rfl rfl rfl ?_
    refine any_val hτ [0] 1 rfl rfl rfl rfl rfl ?_
    refine any_val hτ [] 2 rfl rfl rfl rfl rfl ?_
    refine any_val hτ [0] 4 rfl rfl rfl rfl rfl ?_
    refine any_val hτ [0] 5 rfl rfl rfl rfl rfl ?_
    refine any_val hτ [] 6 rfl rfl rfl rfl rfl ?_
    refine any_fork [3, 9] (by kernel_rfl) fun _ hfs => ⟨?_, ?_, trivial⟩
    · refine bnd_elim h fun x35 hx35 h => ?_
      refine any_callP hτ false [] [0, 1] 3 rfl rfl rfl rfl (enterOk func66 rfl rfl) rfl rfl (by simp) ⟨trivial, trivial, trivial⟩ (by repeat' first | exact trivial | refine ⟨?_, ?_⟩) (impl_scaled_ok n c_.Currents currents_ hx35) ⟨rfl, rfl, trivial⟩ ?_
      refine any_began hfs (by kernel_rfl) fun _ => ?_
      refine any_fork [7, 9] (by kernel_rfl) fun _ hfs => ⟨?_, ?_, trivial⟩
      · refine bnd_elim h fun x36 hx36 h => ?_
        refine any_callP hτ false [] [0, 1, 2] 7 rfl rfl rfl rfl (enterOk func66 rfl rfl) rfl rfl (by simp) ⟨trivial, trivial, trivial⟩ (by repeat' first | exact trivial | refine ⟨?_, ?_⟩) (impl_scaled_ok n c_.Times times_ hx36) ⟨rfl, rfl, rfl, trivial⟩ ?_
        refine any_began hfs (by kernel_rfl) fun _ => ?_
        refine any_val hτ [] 8 rfl rfl rfl rfl rfl ?_
        refine any_valHP hτ [0, 1, 2, 3] 9 rfl rfl rfl rfl ⟨rfl, rfl, rfl, rfl, trivial⟩ ?_
        refine any_valHP hτ [0, 1, 2, 3] 10 rfl rfl rfl rfl ⟨rfl, rfl, rfl, rfl, trivial⟩ ?_
        refine any_close (by kernel_rfl) ?_
        refine aw_weak (weak_ofP [0, 1, 4, 2, 3] (l := [(3, .ptr 0 0), (6, .ptr 1 0), (8, .ptr 2 0)]) (objs := [.box [.d (.sl false (c_.Currents.map eNatf32)), .d (.sl false (c_.Times.map eNatf32))], .box [.d (.nils), .d (.nils)], .box [.row 3 x35.length 0 x35.length, .row 4 x36.length 0 x36.length], .row 1 (x35.map eNatf32), .row 1 (x36.map eNatf32)]) rfl (by simp) rfl (by repeat' first | exact trivial | refine ⟨?_, ?_⟩) ⟨rfl, trivial, rfl, trivial, rfl, trivial, trivial⟩) ?_
        exact hk34 (x35, x36) h
      · refine any_valHP hτ [0, 1, 2] 9 rfl rfl rfl rfl ⟨rfl, rfl, rfl, trivial⟩ ?_
        refine any_began hfs (by kernel_rfl) fun _ => ?_
        refine bnd_elim h fun x36 hx36 h => ?_
        refine any_callP hτ false [] [0, 1, 2, 3] 7 rfl rfl rfl rfl (enterOk func66 rfl rfl) rfl rfl (by simp) ⟨trivial, trivial, trivial⟩ (by repeat' first | exact trivial | refine ⟨?_, ?_⟩) (impl_scaled_ok n c_.Times times_ hx36) ⟨rfl, rfl, rfl, rfl, trivial⟩ ?_
        refine any_val hτ [] 8 rfl rfl rfl rfl rfl ?_
        refine any_valHP hτ [0, 1, 2, 4] 10 rfl rfl rfl rfl ⟨rfl, rfl, rfl, rfl, trivial⟩ ?_
        refine any_close (by kernel_rfl) ?_
        refine aw_weak (weak_ofP [0, 1, 3, 2, 4] (l := [(3, .ptr 0 0), (6, .ptr 1 0), (8, .ptr 2 0)]) (objs := [.box [.d (.sl false (c_.Currents.map eNatf32)), .d (.sl false (c_.Times.map eNatf32))], .box [.d (.nils), .d (.nils)], .box [.row 3 x35.length 0 x35.length, .row 4 x36.length 0 x36.length], .row 1 (x35.map eNatf32), .row 1 (x36.map eNatf32)]) rfl (by simp) rfl (by repeat' first | exact trivial | refine ⟨?_, ?_⟩) ⟨rfl, trivial, rfl, trivial, rfl, trivial, trivial⟩) ?_
        exact hk34 (x35, x36) h
    · refine any_valHP hτ [0, 1] 9 rfl rfl rfl rfl ⟨rfl, rfl, trivial⟩ ?_
      refine any_began hfs (by kernel_rfl) fun _ => ?_
      refine bnd_elim h fun x35 hx35 h => ?_
      refine any_callP hτ false [] [0, 1, 2] 3 rfl rfl rfl rfl (enterOk func66 rfl rfl) rfl rfl (by simp) ⟨trivial, trivial, trivial⟩ (by repeat' first | exact trivial | refine ⟨?_, ?_⟩) (impl_scaled_ok n c_.Currents currents_ hx35) ⟨rfl, rfl, rfl, trivial⟩ ?_
      refine bnd_elim h fun x36 hx36 h => ?_
      refine any_callP hτ false [] [0, 1, 2, 3] 7 rfl rfl rfl rfl (enterOk func66 rfl rfl) rfl rfl (by simp) ⟨trivial, trivial, trivial⟩ (by repeat' first | exact trivial | refine ⟨?_, ?_⟩) (impl_scaled_ok n c_.Times times_ hx36) ⟨rfl, rfl, rfl, rfl, trivial⟩ ?_
      refine any_val hτ [] 8 rfl rfl rfl rfl rfl ?_
      refine any_valHP hτ [0, 1, 3, 4] 10 rfl rfl rfl rfl ⟨rfl, rfl, rfl, rfl, trivial⟩ ?_
      refine any_close (by kernel_rfl) ?_
      refine aw_weak (weak_ofP [0, 1, 2, 3, 4] (l := [(3, .ptr 0 0), (6, .ptr 1 0), (8, .ptr 2 0)]) (objs := [.box [.d (.sl false (c_.Currents.map eNatf32)), .d (.sl false (c_.Times.map eNatf32))], .box [.d (.nils), .d (.nils)], .box [.row 3 x35.length 0 x35.length, .row 4 x36.length 0 x36.length], .row 1 (x35.map eNatf32), .row 1 (x36.map eNatf32)]) rfl (by simp) rfl (by repeat' first | exact trivial | refine ⟨?_, ?_⟩) ⟨rfl, trivial, rfl, trivial, rfl, trivial, trivial⟩) ?_
      exact hk34 (x35, x36) h
theorem impl_ScaleCurve_ok (n : Nat) (c_ : SCurve) (currents_ : Nat) (times_ : Nat) {r : SCurve × Bool} (h : m_impl_ScaleCurve n c_ currents_ times_ = some r) : ACall prog false 29 [.agg [.d (.sl false (c_.Currents.map eNatf32)), .d (.sl false (c_.Times.map eNatf32))], .d (.fl .f32 currents_), .d (.fl .f32 times_)] [] (fun v o new => v = .tup [.agg [.row 0 r.1.Currents.length 0 r.1.Currents.length, .row 1 r.1.Times.length 0 r.1.Times.length], .d (.bool r.2)] ∧ o = [] ∧ new = [.row 1 (r.1.Currents.map eNatf32), .row 1 (r.1.Times.map eNatf32)]) := impl_ScaleCurve_ok_fr0 false n c_ currents_ times_ h
theorem impl_ScaleCurve_ok_fr (n : Nat) (c_ : SCurve) (currents_ : Nat) (times_ : Nat) {r : SCurve × Bool} (h : m_impl_ScaleCurve n c_ currents_ times_ = some r) : ACall prog true 29 [.agg [.d (.sl false (c_.Currents.map eNatf32)), .d (.sl false (c_.Times.map eNatf32))], .d (.fl .f32 currents_), .d (.fl .f32 times_)] [] (fun v o new => v = .tup [.agg [.row 0 r.1.Currents.length 0 r.1.Currents.length, .row 1 r.1.Times.length 0 r.1.Times.length], .d (.bool r.2)] ∧ o = [] ∧ new = [.row 1 (r.1.Currents.map eNatf32), .row 1 (r.1.Times.map eNatf32)]) := impl_ScaleCurve_ok_fr0 true n c_ currents_ times_ h

def m_impl_margin_j1 (n : Nat) (x5 : Nat × Bool) (x6 : Nat × Bool) : Option (Nat × Bool) :=
  some ((farith .sub .f32 x6.1 x5.1), true)
def m_impl_margin_j2 (n : Nat) (x5 : Nat × Bool) (x6 : Nat × Bool) (v12 : Bool) : Option (Nat × Bool) :=
  if v12 = true then
    some ((0 : Nat), false)
  else
    m_impl_margin_j1 n x5 x6
def m_impl_margin (n : Nat) (a_ : SCurve) (b_ : SCurve) (current_ : Nat) : Option (Nat × Bool) :=
  (m_impl_Curve_time n a_ current_).bind fun x5 =>
  (m_impl_Curve_time n b_ current_).bind fun x6 =>
  if x5.2 = true then
    m_impl_margin_j2 n x5 x6 (!x6.2)
  else
    m_impl_margin_j2 n x5 x6 true
theorem impl_margin_ok (n : Nat) (a_ : SCurve) (b_ : SCurve) (current_ : Nat) {r : Nat × Bool} (h : m_impl_margin n a_ b_ current_ = some r) : ACall prog false 67 [.ptr 0 0, .ptr 1 0, .d (.fl .f32 current_)] [.box [.d (.sl false (a_.Currents.map eNatf32)), .d (.sl false (a_.Times.map eNatf32))], .box [.d (.sl false (b_.Currents.map eNatf32)), .d (.sl false (b_.Times.map eNatf32))]] (fun v o new => v = .tup [.d (.fl .f32 r.1), .d (.bool r.2)] ∧ o = [.box [.d (.sl false (a_.Currents.map eNatf32)), .d (.sl false (a_.Times.map eNatf32))], .box [.d (.sl false (b_.Currents.map eNatf32)), .d (.sl false (b_.Times.map eNatf32))]] ∧ new = []) := by
  refine acall_of_aw hτ func67 rfl (by simp) (by simp) ?_
  unfold m_impl_margin at h
  refine aw_seq ?_
  refine aw_region ?_
  refine awl_val hτ rfl rfl rfl ?_
  refine awl_val hτ rfl rfl rfl ?_
  refine awl_nil ?_
  refine aw_seq ?_
  refine aw_region ?_
  refine awl_val hτ rfl rfl rfl ?_
  refine awl_val hτ rfl rfl rfl ?_
  refine bnd_elim h fun x5 hx5 h => ?_
  refine awl_callP hτ false [0] rfl rfl rfl (enterOk func65 rfl rfl) rfl rfl (by simp) ⟨trivial, trivial, trivial⟩ (by repeat' first | exact trivial | refine ⟨?_, ?_⟩) (impl_Curve_time_ok n a_ current_ hx5) ?_
  rintro r0 o0 n0 ⟨rfl, rfl, rfl⟩ -
  refine awl_val hτ rfl rfl rfl ?_
  refine awl_val hτ rfl rfl rfl ?_
  refine awl_val hτ rfl rfl rfl ?_
  refine awl_val hτ rfl rfl rfl ?_
  refine awl_val hτ rfl rfl rfl ?_
  refine awl_nil ?_
  refine aw_seq ?_
  refine aw_weak (weak_ofP [0, 1] (l := [(1, .ptr 1 0), (2, .d (.fl .f32 current_)), (8, .d (.fl .f32 x5.1)), (9, .d (.bool x5.2))]) (objs := [.box [.d (.sl false (a_.Currents.map eNatf32)), .d (.sl false (a_.Times.map eNatf32))], .box [.d (.sl false (b_.Currents.map eNatf32)), .d (.sl false (b_.Times.map eNatf32))]]) rfl (by simp) rfl (by repeat' first | exact trivial | refine ⟨?_, ?_⟩) ⟨rfl, trivial, rfl, trivial, rfl, trivial, rfl, trivial, trivial⟩) ?_
  refine aw_region ?_
  refine awl_val hτ rfl rfl rfl ?_
  refine awl_val hτ rfl rfl rfl ?_
  refine bnd_elim h fun x6 hx6 h => ?_
  refine awl_callP hτ false [1] rfl rfl rfl (enterOk func65 rfl rfl) rfl rfl (by simp) ⟨trivial, trivial, trivial⟩ (by repeat' first | exact trivial | refine ⟨?_, ?_⟩) (impl_Curve_time_ok n b_ current_ hx6) ?_
  rintro r0 o0 n0 ⟨rfl, rfl, rfl⟩ -
  refine awl_val hτ rfl rfl rfl ?_
  refine awl_val hτ rfl rfl rfl ?_
  refine awl_val hτ rfl rfl rfl ?_
  refine awl_val hτ rfl rfl rfl ?_
  refine awl_val hτ rfl rfl rfl ?_
  refine awl_nil ?_
  refine aw_hk1 (ι := Unit) (fun _ => St.of [(8, .d (.fl .f32 x5.1)), (10, .d (.fl .f32 x6.1))] [.box [.d (.sl false (a_.Currents.map eNatf32)), .d (.sl false (a_.Times.map eNatf32))], .box [.d (.sl false (b_.Currents.map eNatf32)), .d (.sl false (b_.Times.map eNatf32))]] f67.ntmps 2) (fun _ => m_impl_margin_j1 n x5 x6 = some r) ?_ (fun hk9 => ?_)
  · rintro ⟨⟩ h
    replace h : m_impl_margin_j1 n x5 x6 = some r := h
    unfold m_impl_margin_j1 at h
    refine aw_seq ?_
    refine aw_region ?_
    refine awl_val hτ rfl rfl rfl ?_
    refine awl_val hτ rfl rfl rfl ?_
    refine awl_val hτ rfl rfl rfl ?_
    refine awl_val hτ rfl rfl rfl ?_
    refine awl_val hτ rfl rfl rfl ?_
    refine awl_nil ?_
    refine aw_weak (weak_ofP [0, 1] (l := [(6, .d (.fl .f32 (farith .sub .f32 x6.1 x5.1))), (7, .d (.bool true))]) (objs := [.box [.d (.sl false (a_.Currents.map eNatf32)), .d (.sl false (a_.Times.map eNatf32))], .box [.d (.sl false (b_.Currents.map eNatf32)), .d (.sl false (b_.Times.map eNatf32))]]) rfl (by simp) rfl (by repeat' first | exact trivial | refine ⟨?_, ?_⟩) ⟨rfl, trivial, rfl, trivial, trivial⟩) ?_
    refine aw_ret ?_
    have hr := Option.some.inj h
    subst hr
    exact ret_objs (.inr rfl) [] (objs' := [.box [.d (.sl false (a_.Currents.map eNatf32)), .d (.sl false (a_.Times.map eNatf32))], .box [.d (.sl false (b_.Currents.map eNatf32)), .d (.sl false (b_.Times.map eNatf32))]]) (new := []) rfl (by simp) (by simp) rfl (by repeat' first | exact trivial | refine ⟨?_, ?_⟩) rfl rfl (by repeat' first | exact trivial | refine ⟨?_, ?_⟩) (fun h => nomatch h) ⟨rfl, rfl, rfl⟩
  · refine aw_seq ?_
    refine aw_hk1 (ι := Bool) (fun v12 => St.of [(8, .d (.fl .f32 x5.1)), (10, .d (.fl .f32 x6.1)), (29, .d (.bool v12))] [.box [.d (.sl false (a_.Currents.map eNatf32)), .d (.sl false (a_.Times.map eNatf32))], .box [.d (.sl false (b_.Currents.map eNatf32)), .d (.sl false (b_.Times.map eNatf32))]] f67.ntmps 2) (fun v12 => m_impl_margin_j2 n x5 x6 v12 = some r) ?_ (fun hk14 => ?_)
    · rintro v12 h
      replace h : m_impl_margin_j2 n x5 x6 v12 = some r := h
      unfold m_impl_margin_j2 at h
      refine aw_cond rfl (fun hc13 => ?_) (fun hc13 => ?_)
      · have h := if_bt h hc13
        refine aw_seq ?_
        refine aw_region ?_
        refine awl_val hτ rfl rfl rfl ?_
        refine awl_val hτ rfl rfl rfl ?_
        refine awl_nil ?_
        refine aw_weak (weak_ofP [0, 1] (l := [(6, .d (.fl .f32 (0 : Nat))), (7, .d (.bool false))]) (objs := [.box [.d (.sl false (a_.Currents.map eNatf32)), .d (.sl false (a_.Times.map eNatf32))], .box [.d (.sl false (b_.Currents.map eNatf32)), .d (.sl false (b_.Times.map eNatf32))]]) rfl (by simp) rfl (by repeat' first | exact trivial | refine ⟨?_, ?_⟩) ⟨rfl, trivial, rfl, trivial, trivial⟩) ?_
        refine aw_ret ?_
        have hr := Option.some.inj h
        subst hr
        exact ret_objs (.inr rfl) [] (objs' := [.box [.d (.sl false (a_.Currents.map eNatf32)), .d (.sl false (a_.Times.map eNatf32))], .box [.d (.sl false (b_.Currents.map eNatf32)), .d (.sl false (b_.Times.map eNatf32))]]) (new := []) rfl (by simp) (by simp) rfl (by repeat' first | exact trivial | refine ⟨?_, ?_⟩) rfl rfl (by repeat' first | exact trivial | refine ⟨?_, ?_⟩) (fun h => nomatch h) ⟨rfl, rfl, rfl⟩
      · have h := if_bf h hc13
        refine aw_skip ?_
        refine aw_weak (weak_ofP [0, 1] (l := [(8, .d (.fl .f32 x5.1)), (10, .d (.fl .f32 x6.1))]) (objs := [.box [.d (.sl false (a_.Currents.map eNatf32)), .d (.sl false (a_.Times.map eNatf32))], .box [.d (.sl false (b_.Currents.map eNatf32)), .d (.sl false (b_.Times.map eNatf32))]]) rfl (by simp) rfl (by repeat' first | exact trivial | refine ⟨?_, ?_⟩) ⟨rfl, trivial, rfl, trivial, trivial⟩) ?_
        exact hk9 () h
    · refine aw_seq ?_
      refine aw_weak (weak_ofP [0, 1] (l := [(8, .d (.fl .f32 x5.1)), (9, .d (.bool x5.2)), (10, .d (.fl .f32 x6.1)), (11, .d (.bool x6.2))]) (objs := [.box [.d (.sl false (a_.Currents.map eNatf32)), .d (.sl false (a_.Times.map eNatf32))], .box [.d (.sl false (b_.Currents.map eNatf32)), .d (.sl false (b_.Times.map eNatf32))]]) rfl (by simp) rfl (by repeat' first | exact trivial | refine ⟨?_, ?_⟩) ⟨rfl, trivial, rfl, trivial, rfl, trivial, rfl, trivial, trivial⟩) ?_
      refine aw_region ?_
      refine awl_val hτ rfl rfl rfl ?_
      refine awl_val hτ rfl rfl rfl ?_
      refine awl_val hτ rfl rfl rfl ?_
      refine awl_split 26 rfl (fun hb15 => ?_) (fun hb15 => ?_)
      · have hb15 := not_t hb15
        have h := if_bf h hb15
        refine awl_skip rfl rfl ?_
        refine awl_skip rfl rfl ?_
        refine awl_val hτ rfl rfl rfl ?_
        refine awl_nil ?_
        refine aw_weak (weak_ofP [0, 1] (l := [(8, .d (.fl .f32 x5.1)), (10, .d (.fl .f32 x6.1)), (29, .d (.bool true))]) (objs := [.box [.d (.sl false (a_.Currents.map eNatf32)), .d (.sl false (a_.Times.map eNatf32))], .box [.d (.sl false (b_.Currents.map eNatf32)), .d (.sl false (b_.Times.map eNatf32))]]) rfl (by simp) rfl (by repeat' first | exact trivial | refine ⟨?_, ?_⟩) ⟨rfl, trivial, rfl, trivial, rfl, trivial, trivial⟩) ?_
        exact hk14 true h
      · have hb15 := not_f hb15
        have h := if_bt h hb15
        refine awl_val hτ rfl rfl rfl ?_
        refine awl_val hτ rfl rfl rfl ?_
        refine awl_val hτ rfl rfl rfl ?_
        refine awl_nil ?_
        refine aw_weak (weak_ofP [0, 1] (l := [(8, .d (.fl .f32 x5.1)), (10, .d (.fl .f32 x6.1)), (29, .d (.bool (!x6.2)))]) (objs := [.box [.d (.sl false (a_.Currents.map eNatf32)), .d (.sl false (a_.Times.map eNatf32))], .box [.d (.sl false (b_.Currents.map eNatf32)), .d (.sl false (b_.Times.map eNatf32))]]) rfl (by simp) rfl (by repeat' first | exact trivial | refine ⟨?_, ?_⟩) ⟨rfl, trivial, rfl, trivial, rfl, trivial, trivial⟩) ?_
        exact hk14 (!x6.2) h

def m_impl_MarginAt_j1 (n : Nat) (a_ : SCurve) (b_ : SCurve) (current_ : Nat) : Option (Nat × Bool) :=
  (m_impl_margin n a_ b_ current_).bind fun x10 =>
  some (x10.1, x10.2)
def m_impl_MarginAt_j2 (n : Nat) (a_ : SCurve) (b_ : SCurve) (current_ : Nat) (v16 : Bool) : Option (Nat × Bool) :=
  if v16 = true then
    some ((0 : Nat), false)
  else
    m_impl_MarginAt_j1 n a_ b_ current_
def m_impl_MarginAt (n : Nat) (a_ : SCurve) (b_ : SCurve) (current_ : Nat) : Option (Nat × Bool) :=
  (m_impl_ValidCurve n a_).bind fun x19 =>
  if x19 = true then
    (m_impl_ValidCurve n b_).bind fun x21 =>
    m_impl_MarginAt_j2 n a_ b_ current_ (!x21)
  else
    m_impl_MarginAt_j2 n a_ b_ current_ true
theorem impl_MarginAt_ok_fr0 (fr : Bool) (n : Nat) (a_ : SCurve) (b_ : SCurve) (current_ : Nat) {r : Nat × Bool} (h : m_impl_MarginAt n a_ b_ current_ = some r) : ACall prog fr 30 [.agg [.d (.sl false (a_.Currents.map eNatf32)), .d (.sl false (a_.Times.map eNatf32))], .agg [.d (.sl false (b_.Currents.map eNatf32)), .d (.sl false (b_.Times.map eNatf32))], .d (.fl .f32 current_)] [] (fun v o new => v = .tup [.d (.fl .f32 r.1), .d (.bool r.2)] ∧ o = [] ∧ new = []) := by
  refine acall_of_aw hτ func30 rfl (by simp) (by simp) ?_
  unfold m_impl_MarginAt at h
  refine aw_seq ?_
  refine aw_region ?_
  refine awl_valH hτ rfl rfl rfl ?_
  refine awl_valH hτ rfl rfl rfl ?_
  refine awl_val hτ rfl rfl rfl ?_
  refine awl_val hτ rfl rfl rfl ?_
  refine awl_nil ?_
  refine aw_hk1 (ι := Unit) (fun _ => St.of [(2, .d (.fl .f32 current_)), (3, .ptr 0 0), (4, .ptr 1 0)] [.box [.d (.sl false (a_.Currents.map eNatf32)), .d (.sl false (a_.Times.map eNatf32))], .box [.d (.sl false (b_.Currents.map eNatf32)), .d (.sl false (b_.Times.map eNatf32))]] f30.ntmps 0) (fun _ => m_impl_MarginAt_j1 n a_ b_ current_ = some r) ?_ (fun hk11 => ?_)
  · rintro ⟨⟩ h
    replace h : m_impl_MarginAt_j1 n a_ b_ current_ = some r := h
    unfold m_impl_MarginAt_j1 at h
    refine aw_seq ?_
    refine aw_region ?_
    refine awl_val hτ rfl rfl rfl ?_
    refine bnd_elim h fun x10 hx10 h => ?_
    refine awl_callP hτ false [0, 1] rfl rfl rfl (enterOk func67 rfl rfl) rfl rfl (by simp) ⟨trivial, trivial, trivial, trivial⟩ (by repeat' first | exact trivial | refine ⟨?_, ?_⟩) (impl_margin_ok n a_ b_ current_ hx10) ?_
    rintro r0 o0 n0 ⟨rfl, rfl, rfl⟩ -
    refine awl_val hτ rfl rfl rfl ?_
    refine awl_val hτ rfl rfl rfl ?_
    refine awl_val hτ rfl rfl rfl ?_
    refine awl_val hτ rfl rfl rfl ?_
    refine awl_nil ?_
    refine aw_weak (weak_ofP [] (l := [(6, .d (.fl .f32 x10.1)), (7, .d (.bool x10.2))]) (objs := []) rfl (by simp) rfl (by repeat' first | exact trivial | refine ⟨?_, ?_⟩) ⟨rfl, trivial, rfl, trivial, trivial⟩) ?_
    refine aw_ret ?_
    have hr := Option.some.inj h
    subst hr
    exact ret_objs (.inr rfl) [] (objs' := []) (new := []) rfl (by simp) (by simp) rfl (by repeat' first | exact trivial | refine ⟨?_, ?_⟩) rfl rfl (by repeat' first | exact trivial | refine ⟨?_, ?_⟩) (fun _ => ⟨by simp [V.flat, V.flatA, V.flatC, D.flat], flat_nil⟩) ⟨rfl, rfl, rfl⟩
  · refine aw_seq ?_
    refine aw_hk1 (ι := Bool) (fun v16 => St.of [(2, .d (.fl .f32 current_)), (3, .ptr 0 0), (4, .ptr 1 0), (15, .d (.bool v16))] [.box [.d (.sl false (a_.Currents.map eNatf32)), .d (.sl false (a_.Times.map eNatf32))], .box [.d (.sl false (b_.Currents.map eNatf32)), .d (.sl false (b_.Times.map eNatf32))]] f30.ntmps 0) (fun v16 => m_impl_MarginAt_j2 n a_ b_ current_ v16 = some r) ?_ (fun hk18 => ?_)
    · rintro v16 h
      replace h : m_impl_MarginAt_j2 n a_ b_ current_ v16 = some r := h
      unfold m_impl_MarginAt_j2 at h
      refine aw_cond rfl (fun hc17 => ?_) (fun hc17 => ?_)
      · have h := if_bt h hc17
        refine aw_seq ?_
        refine aw_region ?_
        refine awl_val hτ rfl rfl rfl ?_
        refine awl_val hτ rfl rfl rfl ?_
        refine awl_nil ?_
        refine aw_weak (weak_ofP [] (l := [(6, .d (.fl .f32 (0 : Nat))), (7, .d (.bool false))]) (objs := []) rfl (by simp) rfl (by repeat' first | exact trivial | refine ⟨?_, ?_⟩) ⟨rfl, trivial, rfl, trivial, trivial⟩) ?_
        refine aw_ret ?_
        have hr := Option.some.inj h
        subst hr
        exact ret_objs (.inr rfl) [] (objs' := []) (new := []) rfl (by simp) (by simp) rfl (by repeat' first | exact trivial | refine ⟨?_, ?_⟩) rfl rfl (by repeat' first | exact trivial | refine ⟨?_, ?_⟩) (fun _ => ⟨by simp [V.flat, V.flatA, V.flatC, D.flat], flat_nil⟩) ⟨rfl, rfl, rfl⟩
      · have h := if_bf h hc17
        refine aw_skip ?_
        refine aw_weak (weak_ofP [0, 1] (l := [(2, .d (.fl .f32 current_)), (3, .ptr 0 0), (4, .ptr 1 0)]) (objs := [.box [.d (.sl false (a_.Currents.map eNatf32)), .d (.sl false (a_.Times.map eNatf32))], .box [.d (.sl false (b_.Currents.map eNatf32)), .d (.sl false (b_.Times.map eNatf32))]]) rfl (by simp) rfl (by repeat' first | exact trivial | refine ⟨?_, ?_⟩) ⟨rfl, trivial, rfl, trivial, rfl, trivial, trivial⟩) ?_
        exact hk11 () h
    · refine aw_seq ?_
      refine aw_region ?_
      refine awl_val hτ rfl rfl rfl ?_
      refine bnd_elim h fun x19 hx19 h => ?_
      refine awl_callP hτ false [] rfl rfl rfl (enterOk func33 rfl rfl) rfl rfl (by simp) ⟨(by repeat' first | exact trivial | refine ⟨?_, ?_⟩), trivial⟩ (by repeat' first | exact trivial | refine ⟨?_, ?_⟩) (impl_ValidCurve_ok n a_ hx19) ?_
      rintro r0 o0 n0 ⟨rfl, rfl, rfl⟩ -
      refine awl_val hτ rfl rfl rfl ?_
      refine awl_val hτ rfl rfl rfl ?_
      refine awl_split 11 rfl (fun hb20 => ?_) (fun hb20 => ?_)
      · have hb20 := not_t hb20
        have h := if_bf h hb20
        refine awl_skip rfl rfl ?_
        refine awl_skip rfl rfl ?_
        refine awl_skip rfl rfl ?_
        refine awl_val hτ rfl rfl rfl ?_
        refine awl_nil ?_
        refine aw_weak (weak_ofP [0, 1] (l := [(2, .d (.fl .f32 current_)), (3, .ptr 0 0), (4, .ptr 1 0), (15, .d (.bool true))]) (objs := [.box [.d (.sl false (a_.Currents.map eNatf32)), .d (.sl false (a_.Times.map eNatf32))], .box [.d (.sl false (b_.Currents.map eNatf32)), .d (.sl false (b_.Times.map eNatf32))]]) rfl (by simp) rfl (by repeat' first | exact trivial | refine ⟨?_, ?_⟩) ⟨rfl, trivial, rfl, trivial, rfl, trivial, rfl, trivial, trivial⟩) ?_
        exact hk18 true h
      · have hb20 := not_f hb20
        have h := if_bt h hb20
        refine awl_val hτ rfl rfl rfl ?_
        refine bnd_elim h fun x21 hx21 h => ?_
        refine awl_callP hτ false [] rfl rfl rfl (enterOk func33 rfl rfl) rfl rfl (by simp) ⟨(by repeat' first | exact trivial | refine ⟨?_, ?_⟩), trivial⟩ (by repeat' first | exact trivial | refine ⟨?_, ?_⟩) (impl_ValidCurve_ok n b_ hx21) ?_
        rintro r0 o0 n0 ⟨rfl, rfl, rfl⟩ -
        refine awl_val hτ rfl rfl rfl ?_
        refine awl_val hτ rfl rfl rfl ?_
        refine awl_nil ?_
        refine aw_weak (weak_ofP [0, 1] (l := [(2, .d (.fl .f32 current_)), (3, .ptr 0 0), (4, .ptr 1 0), (15, .d (.bool (!x21)))]) (objs := [.box [.d (.sl false (a_.Currents.map eNatf32)), .d (.sl false (a_.Times.map eNatf32))], .box [.d (.sl false (b_.Currents.map eNatf32)), .d (.sl false (b_.Times.map eNatf32))]]) rfl (by simp) rfl (by repeat' first | exact trivial | refine ⟨?_, ?_⟩) ⟨rfl, trivial, rfl, trivial, rfl, trivial, rfl, trivial, trivial⟩) ?_
        exact hk18 (!x21) h
theorem impl_MarginAt_ok (n : Nat) (a_ : SCurve) (b_ : SCurve) (current_ : Nat) {r : Nat × Bool} (h : m_impl_MarginAt n a_ b_ current_ = some r) : ACall prog false 30 [.agg [.d (.sl false (a_.Currents.map eNatf32)), .d (.sl false (a_.Times.map eNatf32))], .agg [.d (.sl false (b_.Currents.map eNatf32)), .d (.sl false (b_.Times.map eNatf32))], .d (.fl .f32 current_)] [] (fun v o new => v = .tup [.d (.fl .f32 r.1), .d (.bool r.2)] ∧ o = [] ∧ new = []) := impl_MarginAt_ok_fr0 false n a_ b_ current_ h
theorem impl_MarginAt_ok_fr (n : Nat) (a_ : SCurve) (b_ : SCurve) (current_ : Nat) {r : Nat × Bool} (h : m_impl_MarginAt n a_ b_ current_ = some r) : ACall prog true 30 [.agg [.d (.sl false (a_.Currents.map eNatf32)), .d (.sl false (a_.Times.map eNatf32))], .agg [.d (.sl false (b_.Currents.map eNatf32)), .d (.sl false (b_.Times.map eNatf32))], .d (.fl .f32 current_)] [] (fun v o new => v = .tup [.d (.fl .f32 r.1), .d (.bool r.2)] ∧ o = [] ∧ new = []) := impl_MarginAt_ok_fr0 true n a_ b_ current_ h

def m_impl_grade_j2 (n : Nat) (k38 : Nat → Bool → Int → Option (Nat × Bool)) (v26 : Int) (v47 : Nat) (v48 : Bool) : Option (Nat × Bool) :=
  k38 v47 v48 (w64 (v26 + (1 : Int)))
def m_impl_grade_j3 (n : Nat) (k38 : Nat → Bool → Int → Option (Nat × Bool)) (v24 : Nat) (v25 : Bool) (v26 : Int) (x50 : Nat × Bool) (v55 : Bool) : Option (Nat × Bool) :=
  if v55 = true then
    m_impl_grade_j2 n k38 v26 x50.1 true
  else
    m_impl_grade_j2 n k38 v26 v24 v25
def m_impl_grade_l1 (n : Nat) (a_ : SCurve) (b_ : SCurve) (low_ : Nat) (high_ : Nat) (count_ : Int) : Nat → Nat → Bool → Int → Option (Nat × Bool)
  | 0, _, _, _ => none
  | m37 + 1, v24, v25, v26 =>
    if v26 < (w64 (count_ + (1 : Int))) then
      (m_impl_margin n a_ b_ (farith .add .f32 low_ (farith .mul .f32 (farith .sub .f32 high_ low_) (farith .quo .f32 (FloatKind.nearest .f32 v26) (FloatKind.nearest .f32 count_))))).bind fun x50 =>
      if x50.2 = true then
        if v25 = true then
          m_impl_grade_j3 n (m_impl_grade_l1 n a_ b_ low_ high_ count_ m37) v24 v25 v26 x50 (fcmp .lss .f32 x50.1 v24)
        else
          m_impl_grade_j3 n (m_impl_grade_l1 n a_ b_ low_ high_ count_ m37) v24 v25 v26 x50 true
      else
        m_impl_grade_j3 n (m_impl_grade_l1 n a_ b_ low_ high_ count_ m37) v24 v25 v26 x50 false
    else
      some (v24, v25)
def m_impl_grade (n : Nat) (a_ : SCurve) (b_ : SCurve) (low_ : Nat) (high_ : Nat) (count_ : Int) : Option (Nat × Bool) :=
  m_impl_grade_l1 n a_ b_ low_ high_ count_ n (0 : Nat) false (0 : Int)
theorem impl_grade_ok (n : Nat) (a_ : SCurve) (b_ : SCurve) (low_ : Nat) (high_ : Nat) (count_ : Int) {r : Nat × Bool} (h : m_impl_grade n a_ b_ low_ high_ count_ = some r) : ACall prog false 68 [.ptr 0 0, .ptr 1 0, .d (.fl .f32 low_), .d (.fl .f32 high_), .d (.int .i64 count_)] [.box [.d (.sl false (a_.Currents.map eNatf32)), .d (.sl false (a_.Times.map eNatf32))], .box [.d (.sl false (b_.Currents.map eNatf32)), .d (.sl false (b_.Times.map eNatf32))]] (fun v o new => v = .tup [.d (.fl .f32 r.1), .d (.bool r.2)] ∧ o = [.box [.d (.sl false (a_.Currents.map eNatf32)), .d (.sl false (a_.Times.map eNatf32))], .box [.d (.sl false (b_.Currents.map eNatf32)), .d (.sl false (b_.Times.map eNatf32))]] ∧ new = []) := by
  refine acall_of_aw hτ func68 rfl (by simp) (by simp) ?_
  unfold m_impl_grade at h
  refine aw_seq ?_
  refine aw_region ?_
  refine awl_val hτ rfl rfl rfl ?_
  refine awl_val hτ rfl rfl rfl ?_
  refine awl_nil ?_
  refine aw_seq ?_
  refine aw_region ?_
  refine awl_val hτ rfl rfl rfl ?_
  refine awl_val hτ rfl rfl rfl ?_
  refine awl_nil ?_
  refine aw_seq ?_
  refine aw_seq ?_
  refine aw_region ?_
  refine awl_val hτ rfl rfl rfl ?_
  refine awl_val hτ rfl rfl rfl ?_
  refine awl_val hτ rfl rfl rfl ?_
  refine awl_nil ?_
  refine aw_block ?_
  refine aw_loop (ι := Nat × Nat × Bool × Int) (fun (m37, v24, v25, v26) => St.of [(0, .ptr 0 0), (1, .ptr 1 0), (2, .d (.fl .f32 low_)), (3, .d (.fl .f32 high_)), (4, .d (.int .i64 count_)), (12, .d (.fl .f32 v24)), (13, .d (.bool v25)), (19, .d (.int .i64 (w64 (count_ + (1 : Int))))), (20, .d (.int .i64 v26))] [.box [.d (.sl false (a_.Currents.map eNatf32)), .d (.sl false (a_.Times.map eNatf32))], .box [.d (.sl false (b_.Currents.map eNatf32)), .d (.sl false (b_.Times.map eNatf32))]] f68.ntmps 2) (fun (m37, v24, v25, v26) => m_impl_grade_l1 n a_ b_ low_ high_ count_ m37 v24 v25 v26 = some r) (fun x => x.1) (n, (0 : Nat), false, (0 : Int)) h (weak_ofP [0, 1] (l := [(0, .ptr 0 0), (1, .ptr 1 0), (2, .d (.fl .f32 low_)), (3, .d (.fl .f32 high_)), (4, .d (.int .i64 count_)), (12, .d (.fl .f32 (0 : Nat))), (13, .d (.bool false)), (19, .d (.int .i64 (w64 (count_ + (1 : Int))))), (20, .d (.int .i64 (0 : Int)))]) (objs := [.box [.d (.sl false (a_.Currents.map eNatf32)), .d (.sl false (a_.Times.map eNatf32))], .box [.d (.sl false (b_.Currents.map eNatf32)), .d (.sl false (b_.Times.map eNatf32))]]) rfl (by simp) rfl (by repeat' first | exact trivial | refine ⟨?_, ?_⟩) ⟨rfl, trivial, rfl, trivial, rfl, trivial, rfl, trivial, rfl, trivial, rfl, trivial, rfl, trivial, rfl, trivial, rfl, trivial, trivial⟩) ?_
  rintro ⟨m37, v24, v25, v26⟩ h
  replace h : m_impl_grade_l1 n a_ b_ low_ high_ count_ m37 v24 v25 v26 = some r := h
  rcases m37 with _ | m37
  · rw [m_impl_grade_l1] at h; cases h
  rw [m_impl_grade_l1] at h
  refine aw_seq ?_
  refine aw_region ?_
  refine awl_val hτ rfl rfl rfl ?_
  refine awl_nil ?_
  refine aw_seq ?_
  refine aw_cond rfl (fun hc39 => ?_) (fun hc39 => ?_)
  · have h := if_t h hc39
    refine aw_skip ?_
    refine aw_hk1 (ι := Nat × Bool) (fun (v47, v48) => St.of [(0, .ptr 0 0), (1, .ptr 1 0), (2, .d (.fl .f32 low_)), (3, .d (.fl .f32 high_)), (4, .d (.int .i64 count_)), (12, .d (.fl .f32 v47)), (13, .d (.bool v48)), (19, .d (.int .i64 (w64 (count_ + (1 : Int))))), (20, .d (.int .i64 v26))] [.box [.d (.sl false (a_.Currents.map eNatf32)), .d (.sl false (a_.Times.map eNatf32))], .box [.d (.sl false (b_.Currents.map eNatf32)), .d (.sl false (b_.Times.map eNatf32))]] f68.ntmps 2) (fun (v47, v48) => m_impl_grade_j2 n (m_impl_grade_l1 n a_ b_ low_ high_ count_ m37) v26 v47 v48 = some r) ?_ (fun hk49 => ?_)
    · rintro ⟨v47, v48⟩ h
      replace h : m_impl_grade_j2 n (m_impl_grade_l1 n a_ b_ low_ high_ count_ m37) v26 v47 v48 = some r := h
      unfold m_impl_grade_j2 at h
      refine aw_region ?_
      refine awl_val hτ rfl rfl rfl ?_
      refine awl_val hτ rfl rfl rfl ?_
      refine awl_nil ?_
      exact ⟨(m37, v47, v48, (w64 (v26 + (1 : Int)))), h, Nat.lt_succ_self m37, (weak_ofP [0, 1] (l := [(0, .ptr 0 0), (1, .ptr 1 0), (2, .d (.fl .f32 low_)), (3, .d (.fl .f32 high_)), (4, .d (.int .i64 count_)), (12, .d (.fl .f32 v47)), (13, .d (.bool v48)), (19, .d (.int .i64 (w64 (count_ + (1 : Int))))), (20, .d (.int .i64 (w64 (v26 + (1 : Int)))))]) (objs := [.box [.d (.sl false (a_.Currents.map eNatf32)), .d (.sl false (a_.Times.map eNatf32))], .box [.d (.sl false (b_.Currents.map eNatf32)), .d (.sl false (b_.Times.map eNatf32))]]) rfl (by simp) rfl (by repeat' first | exact trivial | refine ⟨?_, ?_⟩) ⟨rfl, trivial, rfl, trivial, rfl, trivial, rfl, trivial, rfl, trivial, rfl, trivial, rfl, trivial, rfl, trivial, rfl, trivial, trivial⟩)⟩
    · refine aw_seq ?_
      refine aw_block ?_
      refine aw_seq ?_
      refine aw_region ?_
      refine awl_val hτ rfl rfl rfl ?_
      refine awl_val hτ rfl rfl rfl ?_
      refine awl_nil ?_
      refine aw_seq ?_
      refine aw_region ?_
      refine awl_val hτ rfl rfl rfl ?_
      refine awl_val hτ rfl rfl rfl ?_
      refine awl_val hτ rfl rfl rfl ?_
      refine awl_val hτ rfl rfl rfl ?_
      refine awl_val hτ rfl rfl rfl ?_
      refine awl_val hτ rfl rfl rfl ?_
      refine awl_val hτ rfl rfl rfl ?_
      refine awl_val hτ rfl rfl rfl ?_
      refine awl_val hτ rfl rfl rfl ?_
      refine awl_weak (weak_ofP [0, 1] (l := [(0, .ptr 0 0), (1, .ptr 1 0), (2, .d (.fl .f32 low_)), (3, .d (.fl .f32 high_)), (4, .d (.int .i64 count_)), (12, .d (.fl .f32 v24)), (13, .d (.bool v25)), (19, .d (.int .i64 (w64 (count_ + (1 : Int))))), (20, .d (.int .i64 v26)), (23, .d (.fl .f32 low_)), (26, .d (.fl .f32 (farith .sub .f32 high_ low_))), (31, .d (.fl .f32 (farith .quo .f32 (FloatKind.nearest .f32 v26) (FloatKind.nearest .f32 count_))))]) (objs := [.box [.d (.sl false (a_.Currents.map eNatf32)), .d (.sl false (a_.Times.map eNatf32))], .box [.d (.sl false (b_.Currents.map eNatf32)), .d (.sl false (b_.Times.map eNatf32))]]) rfl (by simp) rfl (by repeat' first | exact trivial | refine ⟨?_, ?_⟩) ⟨rfl, trivial, rfl, trivial, rfl, trivial, rfl, trivial, rfl, trivial, rfl, trivial, rfl, trivial, rfl, trivial, rfl, trivial, rfl, trivial, rfl, trivial, rfl, trivial, trivial⟩) ?_
      refine awl_val hτ rfl rfl rfl ?_
      refine awl_val hτ rfl rfl rfl ?_
      refine awl_val hτ rfl rfl rfl ?_
      refine awl_nil ?_
      refine aw_seq ?_
      refine aw_region ?_
      refine awl_val hτ rfl rfl rfl ?_
      refine awl_val hτ rfl rfl rfl ?_
      refine awl_val hτ rfl rfl rfl ?_
      refine bnd_elim h fun x50 hx50 h => ?_
      refine awl_callP hτ false [0, 1] rfl rfl rfl (enterOk func67 rfl rfl) rfl rfl (by simp) ⟨trivial, trivial, trivial, trivial⟩ (by repeat' first | exact trivial | refine ⟨?_, ?_⟩) (impl_margin_ok n a_ b_ (farith .add .f32 low_ (farith .mul .f32 (farith .sub .f32 high_ low_) (farith .quo .f32 (FloatKind.nearest .f32 v26) (FloatKind.nearest .f32 count_)))) hx50) ?_
      rintro r0 o0 n0 ⟨rfl, rfl, rfl⟩ -
      refine awl_val hτ rfl rfl rfl ?_
      refine awl_val hτ rfl rfl rfl ?_
      refine awl_val hτ rfl rfl rfl ?_
      refine awl_val hτ rfl rfl rfl ?_
      refine awl_val hτ rfl rfl rfl ?_
      refine awl_nil ?_
      refine aw_hk1 (ι := Bool) (fun v55 => St.of [(0, .ptr 0 0), (1, .ptr 1 0), (2, .d (.fl .f32 low_)), (3, .d (.fl .f32 high_)), (4, .d (.int .i64 count_)), (12, .d (.fl .f32 v24)), (13, .d (.bool v25)), (16, .d (.fl .f32 x50.1)), (19, .d (.int .i64 (w64 (count_ + (1 : Int))))), (20, .d (.int .i64 v26)), (50, .d (.bool v55))] [.box [.d (.sl false (a_.Currents.map eNatf32)), .d (.sl false (a_.Times.map eNatf32))], .box [.d (.sl false (b_.Currents.map eNatf32)), .d (.sl false (b_.Times.map eNatf32))]] f68.ntmps 2) (fun v55 => m_impl_grade_j3 n (m_impl_grade_l1 n a_ b_ low_ high_ count_ m37) v24 v25 v26 x50 v55 = some r) ?_ (fun hk57 => ?_)
      · rintro v55 h
        replace h : m_impl_grade_j3 n (m_impl_grade_l1 n a_ b_ low_ high_ count_ m37) v24 v25 v26 x50 v55 = some r := h
        unfold m_impl_grade_j3 at h
        refine aw_cond rfl (fun hc56 => ?_) (fun hc56 => ?_)
        · have h := if_bt h hc56
          refine aw_region ?_
          refine awl_val hτ rfl rfl rfl ?_
          refine awl_val hτ rfl rfl rfl ?_
          refine awl_val hτ rfl rfl rfl ?_
          refine awl_nil ?_
          refine aw_weak (weak_ofP [0, 1] (l := [(0, .ptr 0 0), (1, .ptr 1 0), (2, .d (.fl .f32 low_)), (3, .d (.fl .f32 high_)), (4, .d (.int .i64 count_)), (12, .d (.fl .f32 x50.1)), (13, .d (.bool true)), (19, .d (.int .i64 (w64 (count_ + (1 : Int))))), (20, .d (.int .i64 v26))]) (objs := [.box [.d (.sl false (a_.Currents.map eNatf32)), .d (.sl false (a_.Times.map eNatf32))], .box [.d (.sl false (b_.Currents.map eNatf32)), .d (.sl false (b_.Times.map eNatf32))]]) rfl (by simp) rfl (by repeat' first | exact trivial | refine ⟨?_, ?_⟩) ⟨rfl, trivial, rfl, trivial, rfl, trivial, rfl, trivial, rfl, trivial, rfl, trivial, rfl, trivial, rfl, trivial, rfl, trivial, trivial⟩) ?_
          exact hk49 (x50.1, true) h
        · have h := if_bf h hc56
          refine aw_skip ?_
          refine aw_weak (weak_ofP [0, 1] (l := [(0, .ptr 0 0), (1, .ptr 1 0), (2, .d (.fl .f32 low_)), (3, .d (.fl .f32 high_)), (4, .d (.int .i64 count_)), (12, .d (.fl .f32 v24)), (13, .d (.bool v25)), (19, .d (.int .i64 (w64 (count_ + (1 : Int))))), (20, .d (.int .i64 v26))]) (objs := [.box [.d (.sl false (a_.Currents.map eNatf32)), .d (.sl false (a_.Times.map eNatf32))], .box [.d (.sl false (b_.Currents.map eNatf32)), .d (.sl false (b_.Times.map eNatf32))]]) rfl (by simp) rfl (by repeat' first | exact trivial | refine ⟨?_, ?_⟩) ⟨rfl, trivial, rfl, trivial, rfl, trivial, rfl, trivial, rfl, trivial, rfl, trivial, rfl, trivial, rfl, trivial, rfl, trivial, trivial⟩) ?_
          exact hk49 (v24, v25) h
      · refine aw_seq ?_
        refine aw_weak (weak_ofP [0, 1] (l := [(0, .ptr 0 0), (1, .ptr 1 0), (2, .d (.fl .f32 low_)), (3, .d (.fl .f32 high_)), (4, .d (.int .i64 count_)), (12, .d (.fl .f32 v24)), (13, .d (.bool v25)), (16, .d (.fl .f32 x50.1)), (17, .d (.bool x50.2)), (19, .d (.int .i64 (w64 (count_ + (1 : Int))))), (20, .d (.int .i64 v26))]) (objs := [.box [.d (.sl false (a_.Currents.map eNatf32)), .d (.sl false (a_.Times.map eNatf32))], .box [.d (.sl false (b_.Currents.map eNatf32)), .d (.sl false (b_.Times.map eNatf32))]]) rfl (by simp) rfl (by repeat' first | exact trivial | refine ⟨?_, ?_⟩) ⟨rfl, trivial, rfl, trivial, rfl, trivial, rfl, trivial, rfl, trivial, rfl, trivial, rfl, trivial, rfl, trivial, rfl, trivial, rfl, trivial, rfl, trivial, trivial⟩) ?_
        refine aw_region ?_
        refine awl_val hτ rfl rfl rfl ?_
        refine awl_val hτ rfl rfl rfl ?_
        refine awl_split 42 rfl (fun hb58 => ?_) (fun hb58 => ?_)
        · have h := if_bt h hb58
          refine awl_val hτ rfl rfl rfl ?_
          refine awl_val hτ rfl rfl rfl ?_
          refine awl_val hτ rfl rfl rfl ?_
          refine awl_split 45 rfl (fun hb59 => ?_) (fun hb59 => ?_)
          · have hb59 := not_t hb59
            have h := if_bf h hb59
            refine awl_skip rfl rfl ?_
            refine awl_skip rfl rfl ?_
            refine awl_skip rfl rfl ?_
            refine awl_val hτ rfl rfl rfl ?_
            refine awl_val hτ rfl rfl rfl ?_
            refine awl_nil ?_
            refine aw_weak (weak_ofP [0, 1] (l := [(0, .ptr 0 0), (1, .ptr 1 0), (2, .d (.fl .f32 low_)), (3, .d (.fl .f32 high_)), (4, .d (.int .i64 count_)), (12, .d (.fl .f32 v24)), (13, .d (.bool v25)), (16, .d (.fl .f32 x50.1)), (19, .d (.int .i64 (w64 (count_ + (1 : Int))))), (20, .d (.int .i64 v26)), (50, .d (.bool true))]) (objs := [.box [.d (.sl false (a_.Currents.map eNatf32)), .d (.sl false (a_.Times.map eNatf32))], .box [.d (.sl false (b_.Currents.map eNatf32)), .d (.sl false (b_.Times.map eNatf32))]]) rfl (by simp) rfl (by repeat' first | exact trivial | refine ⟨?_, ?_⟩) ⟨rfl, trivial, rfl, trivial, rfl, trivial, rfl, trivial, rfl, trivial, rfl, trivial, rfl, trivial, rfl, trivial, rfl, trivial, rfl, trivial, rfl, trivial, trivial⟩) ?_
            exact hk57 true h
          · have hb59 := not_f hb59
            have h := if_bt h hb59
            refine awl_val hτ rfl rfl rfl ?_
            refine awl_val hτ rfl rfl rfl ?_
            refine awl_val hτ rfl rfl rfl ?_
            refine awl_val hτ rfl rfl rfl ?_
            refine awl_val hτ rfl rfl rfl ?_
            refine awl_nil ?_
            refine aw_weak (weak_ofP [0, 1] (l := [(0, .ptr 0 0), (1, .ptr 1 0), (2, .d (.fl .f32 low_)), (3, .d (.fl .f32 high_)), (4, .d (.int .i64 count_)), (12, .d (.fl .f32 v24)), (13, .d (.bool v25)), (16, .d (.fl .f32 x50.1)), (19, .d (.int .i64 (w64 (count_ + (1 : Int))))), (20, .d (.int .i64 v26)), (50, .d (.bool (fcmp .lss .f32 x50.1 v24)))]) (objs := [.box [.d (.sl false (a_.Currents.map eNatf32)), .d (.sl false (a_.Times.map eNatf32))], .box [.d (.sl false (b_.Currents.map eNatf32)), .d (.sl false (b_.Times.map eNatf32))]]) rfl (by simp) rfl (by repeat' first | exact trivial | refine ⟨?_, ?_⟩) ⟨rfl, trivial, rfl, trivial, rfl, trivial, rfl, trivial, rfl, trivial, rfl, trivial, rfl, trivial, rfl, trivial, rfl, trivial, rfl, trivial, rfl, trivial, trivial⟩) ?_
            exact hk57 (fcmp .lss .f32 x50.1 v24) h
        · have h := if_bf h hb58
          refine awl_skip rfl rfl ?_
          refine awl_skip rfl rfl ?_
          refine awl_skip rfl rfl ?_
          refine awl_skip rfl rfl ?_
          refine awl_skip rfl rfl ?_
          refine awl_skip rfl rfl ?_
          refine awl_skip rfl rfl ?_
          refine awl_val hτ rfl rfl rfl ?_
          refine awl_nil ?_
          refine aw_weak (weak_ofP [0, 1] (l := [(0, .ptr 0 0), (1, .ptr 1 0), (2, .d (.fl .f32 low_)), (3, .d (.fl .f32 high_)), (4, .d (.int .i64 count_)), (12, .d (.fl .f32 v24)), (13, .d (.bool v25)), (16, .d (.fl .f32 x50.1)), (19, .d (.int .i64 (w64 (count_ + (1 : Int))))), (20, .d (.int .i64 v26)), (50, .d (.bool false))]) (objs := [.box [.d (.sl false (a_.Currents.map eNatf32)), .d (.sl false (a_.Times.map eNatf32))], .box [.d (.sl false (b_.Currents.map eNatf32)), .d (.sl false (b_.Times.map eNatf32))]]) rfl (by simp) rfl (by repeat' first | exact trivial | refine ⟨?_, ?_⟩) ⟨rfl, trivial, rfl, trivial, rfl, trivial, rfl, trivial, rfl, trivial, rfl, trivial, rfl, trivial, rfl, trivial, rfl, trivial, rfl, trivial, rfl, trivial, trivial⟩) ?_
          exact hk57 false h
  · have h := if_f h hc39
    refine aw_exit ?_
    refine aw_seq ?_
    refine aw_region ?_
    refine awl_val hτ rfl rfl rfl ?_
    refine awl_val hτ rfl rfl rfl ?_
    refine awl_val hτ rfl rfl rfl ?_
    refine awl_val hτ rfl rfl rfl ?_
    refine awl_nil ?_
    refine aw_weak (weak_ofP [0, 1] (l := [(10, .d (.fl .f32 v24)), (11, .d (.bool v25))]) (objs := [.box [.d (.sl false (a_.Currents.map eNatf32)), .d (.sl false (a_.Times.map eNatf32))], .box [.d (.sl false (b_.Currents.map eNatf32)), .d (.sl false (b_.Times.map eNatf32))]]) rfl (by simp) rfl (by repeat' first | exact trivial | refine ⟨?_, ?_⟩) ⟨rfl, trivial, rfl, trivial, trivial⟩) ?_
    refine aw_ret ?_
    have hr := Option.some.inj h
    subst hr
    exact ret_objs (.inr rfl) [] (objs' := [.box [.d (.sl false (a_.Currents.map eNatf32)), .d (.sl false (a_.Times.map eNatf32))], .box [.d (.sl false (b_.Currents.map eNatf32)), .d (.sl false (b_.Times.map eNatf32))]]) (new := []) rfl (by simp) (by simp) rfl (by repeat' first | exact trivial | refine ⟨?_, ?_⟩) rfl rfl (by repeat' first | exact trivial | refine ⟨?_, ?_⟩) (fun h => nomatch h) ⟨rfl, rfl, rfl⟩

def m_impl_GradeOf_j1 (n : Nat) (a_ : SCurve) (b_ : SCurve) (low_ : Nat) (high_ : Nat) (count_ : Int) : Option (Nat × Bool) :=
  (m_impl_grade n a_ b_ low_ high_ count_).bind fun x14 =>
  some (x14.1, x14.2)
def m_impl_GradeOf_j2 (n : Nat) (a_ : SCurve) (b_ : SCurve) (low_ : Nat) (high_ : Nat) (count_ : Int) (v22 : Bool) : Option (Nat × Bool) :=
  if v22 = true then
    some ((0 : Nat), false)
  else
    m_impl_GradeOf_j1 n a_ b_ low_ high_ count_
def m_impl_GradeOf (n : Nat) (a_ : SCurve) (b_ : SCurve) (low_ : Nat) (high_ : Nat) (count_ : Int) : Option (Nat × Bool) :=
  (m_impl_ValidCurve n a_).bind fun x25 =>
  if x25 = true then
    (m_impl_ValidCurve n b_).bind fun x27 =>
    if x27 = true then
      (m_impl_in n count_ (1 : Int) (100 : Int)).bind fun x29 =>
      m_impl_GradeOf_j2 n a_ b_ low_ high_ count_ (!x29)
    else
      m_impl_GradeOf_j2 n a_ b_ low_ high_ count_ true
  else
    m_impl_GradeOf_j2 n a_ b_ low_ high_ count_ true
theorem impl_GradeOf_ok_fr0 (fr : Bool) (n : Nat) (a_ : SCurve) (b_ : SCurve) (low_ : Nat) (high_ : Nat) (count_ : Int) {r : Nat × Bool} (h : m_impl_GradeOf n a_ b_ low_ high_ count_ = some r) : ACall prog fr 31 [.agg [.d (.sl false (a_.Currents.map eNatf32)), .d (.sl false (a_.Times.map eNatf32))], .agg [.d (.sl false (b_.Currents.map eNatf32)), .d (.sl false (b_.Times.map eNatf32))], .d (.fl .f32 low_), .d (.fl .f32 high_), .d (.int .i64 count_)] [] (fun v o new => v = .tup [.d (.fl .f32 r.1), .d (.bool r.2)] ∧ o = [] ∧ new = []) := by
  refine acall_of_aw hτ func31 rfl (by simp) (by simp) ?_
  unfold m_impl_GradeOf at h
  refine aw_seq ?_
  refine aw_region ?_
  refine awl_valH hτ rfl rfl rfl ?_
  refine awl_valH hτ rfl rfl rfl ?_
  refine awl_val hτ rfl rfl rfl ?_
  refine awl_val hτ rfl rfl rfl ?_
  refine awl_nil ?_
  refine aw_hk1 (ι := Unit) (fun _ => St.of [(2, .d (.fl .f32 low_)), (3, .d (.fl .f32 high_)), (4, .d (.int .i64 count_)), (5, .ptr 0 0), (6, .ptr 1 0)] [.box [.d (.sl false (a_.Currents.map eNatf32)), .d (.sl false (a_.Times.map eNatf32))], .box [.d (.sl false (b_.Currents.map eNatf32)), .d (.sl false (b_.Times.map eNatf32))]] f31.ntmps 0) (fun _ => m_impl_GradeOf_j1 n a_ b_ low_ high_ count_ = some r) ?_ (fun hk15 => ?_)
  · rintro ⟨⟩ h
    replace h : m_impl_GradeOf_j1 n a_ b_ low_ high_ count_ = some r := h
    unfold m_impl_GradeOf_j1 at h
    refine aw_seq ?_
    refine aw_region ?_
    refine awl_val hτ rfl rfl rfl ?_
    refine awl_val hτ rfl rfl rfl ?_
    refine awl_val hτ rfl rfl rfl ?_
    refine bnd_elim h fun x14 hx14 h => ?_
    refine awl_callP hτ false [0, 1] rfl rfl rfl (enterOk func68 rfl rfl) rfl rfl (by simp) ⟨trivial, trivial, trivial, trivial, trivial, trivial⟩ (by repeat' first | exact trivial | refine ⟨?_, ?_⟩) (impl_grade_ok n a_ b_ low_ high_ count_ hx14) ?_
    rintro r0 o0 n0 ⟨rfl, rfl, rfl⟩ -
    refine awl_val hτ rfl rfl rfl ?_
    refine awl_val hτ rfl rfl rfl ?_
    refine awl_val hτ rfl rfl rfl ?_
    refine awl_val hτ rfl rfl rfl ?_
    refine awl_nil ?_
    refine aw_weak (weak_ofP [] (l := [(10, .d (.fl .f32 x14.1)), (11, .d (.bool x14.2))]) (objs := []) rfl (by simp) rfl (by repeat' first | exact trivial | refine ⟨?_, ?_⟩) ⟨rfl, trivial, rfl, trivial, trivial⟩) ?_
    refine aw_ret ?_
    have hr := Option.some.inj h
    subst hr
    exact ret_objs (.inr rfl) [] (objs' := []) (new := []) rfl (by simp) (by simp) rfl (by repeat' first | exact trivial | refine ⟨?_, ?_⟩) rfl rfl (by repeat' first | exact trivial | refine ⟨?_, ?_⟩) (fun _ => ⟨by simp [V.flat, V.flatA, V.flatC, D.flat], flat_nil⟩) ⟨rfl, rfl, rfl⟩
  · refine aw_seq ?_
    refine aw_hk1 (ι := Bool) (fun v22 => St.of [(2, .d (.fl .f32 low_)), (3, .d (.fl .f32 high_)), (4, .d (.int .i64 count_)), (5, .ptr 0 0), (6, .ptr 1 0), (24, .d (.bool v22))] [.box [.d (.sl false (a_.Currents.map eNatf32)), .d (.sl false (a_.Times.map eNatf32))], .box [.d (.sl false (b_.Currents.map eNatf32)), .d (.sl false (b_.Times.map eNatf32))]] f31.ntmps 0) (fun v22 => m_impl_GradeOf_j2 n a_ b_ low_ high_ count_ v22 = some r) ?_ (fun hk24 => ?_)
    · rintro v22 h
      replace h : m_impl_GradeOf_j2 n a_ b_ low_ high_ count_ v22 = some r := h
      unfold m_impl_GradeOf_j2 at h
      refine aw_cond rfl (fun hc23 => ?_) (fun hc23 => ?_)
      · have h := if_bt h hc23
        refine aw_seq ?_
        refine aw_region ?_
        refine awl_val hτ rfl rfl rfl ?_
        refine awl_val hτ rfl rfl rfl ?_
        refine awl_nil ?_
        refine aw_weak (weak_ofP [] (l := [(10, .d (.fl .f32 (0 : Nat))), (11, .d (.bool false))]) (objs := []) rfl (by simp) rfl (by repeat' first | exact trivial | refine ⟨?_, ?_⟩) ⟨rfl, trivial, rfl, trivial, trivial⟩) ?_
        refine aw_ret ?_
        have hr := Option.some.inj h
        subst hr
        exact ret_objs (.inr rfl) [] (objs' := []) (new := []) rfl (by simp) (by simp) rfl (by repeat' first | exact trivial | refine ⟨?_, ?_⟩) rfl rfl (by repeat' first | exact trivial | refine ⟨?_, ?_⟩) (fun _ => ⟨by simp [V.flat, V.flatA, V.flatC, D.flat], flat_nil⟩) ⟨rfl, rfl, rfl⟩
      · have h := if_bf h hc23
        refine aw_skip ?_
        refine aw_weak (weak_ofP [0, 1] (l := [(2, .d (.fl .f32 low_)), (3, .d (.fl .f32 high_)), (4, .d (.int .i64 count_)), (5, .ptr 0 0), (6, .ptr 1 0)]) (objs := [.box [.d (.sl false (a_.Currents.map eNatf32)), .d (.sl false (a_.Times.map eNatf32))], .box [.d (.sl false (b_.Currents.map eNatf32)), .d (.sl false (b_.Times.map eNatf32))]]) rfl (by simp) rfl (by repeat' first | exact trivial | refine ⟨?_, ?_⟩) ⟨rfl, trivial, rfl, trivial, rfl, trivial, rfl, trivial, rfl, trivial, trivial⟩) ?_
        exact hk15 () h
    · refine aw_seq ?_
      refine aw_region ?_
      refine awl_val hτ rfl rfl rfl ?_
      refine bnd_elim h fun x25 hx25 h => ?_
      refine awl_callP hτ false [] rfl rfl rfl (enterOk func33 rfl rfl) rfl rfl (by simp) ⟨(by repeat' first | exact trivial | refine ⟨?_, ?_⟩), trivial⟩ (by repeat' first | exact trivial | refine ⟨?_, ?_⟩) (impl_ValidCurve_ok n a_ hx25) ?_
      rintro r0 o0 n0 ⟨rfl, rfl, rfl⟩ -
      refine awl_val hτ rfl rfl rfl ?_
      refine awl_val hτ rfl rfl rfl ?_
      refine awl_split 15 rfl (fun hb26 => ?_) (fun hb26 => ?_)
      · have hb26 := not_t hb26
        have h := if_bf h hb26
        refine awl_skip rfl rfl ?_
        refine awl_skip rfl rfl ?_
        refine awl_skip rfl rfl ?_
        refine awl_val hτ rfl rfl rfl ?_
        refine awl_weak (weak_ofP [0, 1] (l := [(2, .d (.fl .f32 low_)), (3, .d (.fl .f32 high_)), (4, .d (.int .i64 count_)), (5, .ptr 0 0), (6, .ptr 1 0), (19, .d (.bool true))]) (objs := [.box [.d (.sl false (a_.Currents.map eNatf32)), .d (.sl false (a_.Times.map eNatf32))], .box [.d (.sl false (b_.Currents.map eNatf32)), .d (.sl false (b_.Times.map eNatf32))]]) rfl (by simp) rfl (by repeat' first | exact trivial | refine ⟨?_, ?_⟩) ⟨rfl, trivial, rfl, trivial, rfl, trivial, rfl, trivial, rfl, trivial, rfl, trivial, trivial⟩) ?_
        refine awl_val hτ rfl rfl rfl ?_
        refine awl_skip rfl rfl ?_
        refine awl_skip rfl rfl ?_
        refine awl_skip rfl rfl ?_
        refine awl_val hτ rfl rfl rfl ?_
        refine awl_nil ?_
        refine aw_weak (weak_ofP [0, 1] (l := [(2, .d (.fl .f32 low_)), (3, .d (.fl .f32 high_)), (4, .d (.int .i64 count_)), (5, .ptr 0 0), (6, .ptr 1 0), (24, .d (.bool true))]) (objs := [.box [.d (.sl false (a_.Currents.map eNatf32)), .d (.sl false (a_.Times.map eNatf32))], .box [.d (.sl false (b_.Currents.map eNatf32)), .d (.sl false (b_.Times.map eNatf32))]]) rfl (by simp) rfl (by repeat' first | exact trivial | refine ⟨?_, ?_⟩) ⟨rfl, trivial, rfl, trivial, rfl, trivial, rfl, trivial, rfl, trivial, rfl, trivial, trivial⟩) ?_
        exact hk24 true h
      · have hb26 := not_f hb26
        have h := if_bt h hb26
        refine awl_val hτ rfl rfl rfl ?_
        refine bnd_elim h fun x27 hx27 h => ?_
        refine awl_callP hτ false [] rfl rfl rfl (enterOk func33 rfl rfl) rfl rfl (by simp) ⟨(by repeat' first | exact trivial | refine ⟨?_, ?_⟩), trivial⟩ (by repeat' first | exact trivial | refine ⟨?_, ?_⟩) (impl_ValidCurve_ok n b_ hx27) ?_
        rintro r0 o0 n0 ⟨rfl, rfl, rfl⟩ -
        refine awl_val hτ rfl rfl rfl ?_
        refine awl_val hτ rfl rfl rfl ?_
        refine awl_weak (weak_ofP [0, 1] (l := [(2, .d (.fl .f32 low_)), (3, .d (.fl .f32 high_)), (4, .d (.int .i64 count_)), (5, .ptr 0 0), (6, .ptr 1 0), (19, .d (.bool (!x27)))]) (objs := [.box [.d (.sl false (a_.Currents.map eNatf32)), .d (.sl false (a_.Times.map eNatf32))], .box [.d (.sl false (b_.Currents.map eNatf32)), .d (.sl false (b_.Times.map eNatf32))]]) rfl (by simp) rfl (by repeat' first | exact trivial | refine ⟨?_, ?_⟩) ⟨rfl, trivial, rfl, trivial, rfl, trivial, rfl, trivial, rfl, trivial, rfl, trivial, trivial⟩) ?_
        refine awl_val hτ rfl rfl rfl ?_
        refine awl_split 20 rfl (fun hb28 => ?_) (fun hb28 => ?_)
        · have hb28 := not_t hb28
          have h := if_bf h hb28
          refine awl_skip rfl rfl ?_
          refine awl_skip rfl rfl ?_
          refine awl_skip rfl rfl ?_
          refine awl_val hτ rfl rfl rfl ?_
          refine awl_nil ?_
          refine aw_weak (weak_ofP [0, 1] (l := [(2, .d (.fl .f32 low_)), (3, .d (.fl .f32 high_)), (4, .d (.int .i64 count_)), (5, .ptr 0 0), (6, .ptr 1 0), (24, .d (.bool true))]) (objs := [.box [.d (.sl false (a_.Currents.map eNatf32)), .d (.sl false (a_.Times.map eNatf32))], .box [.d (.sl false (b_.Currents.map eNatf32)), .d (.sl false (b_.Times.map eNatf32))]]) rfl (by simp) rfl (by repeat' first | exact trivial | refine ⟨?_, ?_⟩) ⟨rfl, trivial, rfl, trivial, rfl, trivial, rfl, trivial, rfl, trivial, rfl, trivial, trivial⟩) ?_
          exact hk24 true h
        · have hb28 := not_f hb28
          have h := if_bt h hb28
          refine awl_val hτ rfl rfl rfl ?_
          refine bnd_elim h fun x29 hx29 h => ?_
          refine awl_callP hτ false [] rfl rfl rfl (enterOk func60 rfl rfl) rfl rfl (by simp) ⟨trivial, trivial, trivial, trivial⟩ (by repeat' first | exact trivial | refine ⟨?_, ?_⟩) (impl_in_ok n count_ (1 : Int) (100 : Int) hx29) ?_
          rintro r0 o0 n0 ⟨rfl, rfl, rfl⟩ -
          refine awl_val hτ rfl rfl rfl ?_
          refine awl_val hτ rfl rfl rfl ?_
          refine awl_nil ?_
          refine aw_weak (weak_ofP [0, 1] (l := [(2, .d (.fl .f32 low_)), (3, .d (.fl .f32 high_)), (4, .d (.int .i64 count_)), (5, .ptr 0 0), (6, .ptr 1 0), (24, .d (.bool (!x29)))]) (objs := [.box [.d (.sl false (a_.Currents.map eNatf32)), .d (.sl false (a_.Times.map eNatf32))], .box [.d (.sl false (b_.Currents.map eNatf32)), .d (.sl false (b_.Times.map eNatf32))]]) rfl (by simp) rfl (by repeat' first | exact trivial | refine ⟨?_, ?_⟩) ⟨rfl, trivial, rfl, trivial, rfl, trivial, rfl, trivial, rfl, trivial, rfl, trivial, trivial⟩) ?_
          exact hk24 (!x29) h
theorem impl_GradeOf_ok (n : Nat) (a_ : SCurve) (b_ : SCurve) (low_ : Nat) (high_ : Nat) (count_ : Int) {r : Nat × Bool} (h : m_impl_GradeOf n a_ b_ low_ high_ count_ = some r) : ACall prog false 31 [.agg [.d (.sl false (a_.Currents.map eNatf32)), .d (.sl false (a_.Times.map eNatf32))], .agg [.d (.sl false (b_.Currents.map eNatf32)), .d (.sl false (b_.Times.map eNatf32))], .d (.fl .f32 low_), .d (.fl .f32 high_), .d (.int .i64 count_)] [] (fun v o new => v = .tup [.d (.fl .f32 r.1), .d (.bool r.2)] ∧ o = [] ∧ new = []) := impl_GradeOf_ok_fr0 false n a_ b_ low_ high_ count_ h
theorem impl_GradeOf_ok_fr (n : Nat) (a_ : SCurve) (b_ : SCurve) (low_ : Nat) (high_ : Nat) (count_ : Int) {r : Nat × Bool} (h : m_impl_GradeOf n a_ b_ low_ high_ count_ = some r) : ACall prog true 31 [.agg [.d (.sl false (a_.Currents.map eNatf32)), .d (.sl false (a_.Times.map eNatf32))], .agg [.d (.sl false (b_.Currents.map eNatf32)), .d (.sl false (b_.Times.map eNatf32))], .d (.fl .f32 low_), .d (.fl .f32 high_), .d (.int .i64 count_)] [] (fun v o new => v = .tup [.d (.fl .f32 r.1), .d (.bool r.2)] ∧ o = [] ∧ new = []) := impl_GradeOf_ok_fr0 true n a_ b_ low_ high_ count_ h

def m_spec_l01Finite (n : Nat) (x_ : Nat) : Option Bool :=
  some (fcmp .eql .f32 (farith .sub .f32 x_ x_) (0 : Nat))
theorem spec_l01Finite_ok_fr0 (fr : Bool) (n : Nat) (x_ : Nat) {r : Bool} (h : m_spec_l01Finite n x_ = some r) : ACall prog fr 120 [.d (.fl .f32 x_)] [] (fun v o new => v = .d (.bool r) ∧ o = [] ∧ new = []) := by
  refine acall_of_aw hτ func120 rfl (by simp) (by simp) ?_
  unfold m_spec_l01Finite at h
  refine aw_seq ?_
  refine aw_region ?_
  refine awl_val hτ rfl rfl rfl ?_
  refine awl_nil ?_
  refine aw_seq ?_
  refine aw_region ?_
  refine awl_val hτ rfl rfl rfl ?_
  refine awl_val hτ rfl rfl rfl ?_
  refine awl_val hτ rfl rfl rfl ?_
  refine awl_val hτ rfl rfl rfl ?_
  refine awl_val hτ rfl rfl rfl ?_
  refine awl_nil ?_
  refine aw_weak (weak_ofP [] (l := [(2, .d (.bool (fcmp .eql .f32 (farith .sub .f32 x_ x_) (0 : Nat))))]) (objs := []) rfl (by simp) rfl (by repeat' first | exact trivial | refine ⟨?_, ?_⟩) ⟨rfl, trivial, trivial⟩) ?_
  refine aw_ret ?_
  have hr := Option.some.inj h
  subst hr
  exact ret_objs (.inr rfl) [] (objs' := []) (new := []) rfl (by simp) (by simp) rfl (by repeat' first | exact trivial | refine ⟨?_, ?_⟩) rfl rfl (by repeat' first | exact trivial | refine ⟨?_, ?_⟩) (fun _ => ⟨by simp [V.flat, V.flatA, V.flatC, D.flat], flat_nil⟩) ⟨rfl, rfl, rfl⟩
theorem spec_l01Finite_ok (n : Nat) (x_ : Nat) {r : Bool} (h : m_spec_l01Finite n x_ = some r) : ACall prog false 120 [.d (.fl .f32 x_)] [] (fun v o new => v = .d (.bool r) ∧ o = [] ∧ new = []) := spec_l01Finite_ok_fr0 false n x_ h
theorem spec_l01Finite_ok_fr (n : Nat) (x_ : Nat) {r : Bool} (h : m_spec_l01Finite n x_ = some r) : ACall prog true 120 [.d (.fl .f32 x_)] [] (fun v o new => v = .d (.bool r) ∧ o = [] ∧ new = []) := spec_l01Finite_ok_fr0 true n x_ h

def m_spec_l07Positive (n : Nat) (x_ : Nat) : Option Bool :=
  (m_spec_l01Finite n x_).bind fun x4 =>
  if x4 = true then
    some (fcmp .gtr .f32 x_ (0 : Nat))
  else
    some false
theorem spec_l07Positive_ok_fr0 (fr : Bool) (n : Nat) (x_ : Nat) {r : Bool} (h : m_spec_l07Positive n x_ = some r) : ACall prog fr 98 [.d (.fl .f32 x_)] [] (fun v o new => v = .d (.bool r) ∧ o = [] ∧ new = []) := by
  refine acall_of_aw hτ func98 rfl (by simp) (by simp) ?_
  unfold m_spec_l07Positive at h
  refine aw_seq ?_
  refine aw_region ?_
  refine awl_val hτ rfl rfl rfl ?_
  refine awl_nil ?_
  refine aw_seq ?_
  refine aw_region ?_
  refine awl_val hτ rfl rfl rfl ?_
  refine bnd_elim h fun x4 hx4 h => ?_
  refine awl_callP hτ false [] rfl rfl rfl (enterOk func120 rfl rfl) rfl rfl (by simp) ⟨trivial, trivial⟩ (by repeat' first | exact trivial | refine ⟨?_, ?_⟩) (spec_l01Finite_ok n x_ hx4) ?_
  rintro r0 o0 n0 ⟨rfl, rfl, rfl⟩ -
  refine awl_val hτ rfl rfl rfl ?_
  refine awl_split 5 rfl (fun hb5 => ?_) (fun hb5 => ?_)
  · have h := if_bt h hb5
    refine awl_val hτ rfl rfl rfl ?_
    refine awl_val hτ rfl rfl rfl ?_
    refine awl_val hτ rfl rfl rfl ?_
    refine awl_val hτ rfl rfl rfl ?_
    refine awl_nil ?_
    refine aw_weak (weak_ofP [] (l := [(2, .d (.bool (fcmp .gtr .f32 x_ (0 : Nat))))]) (objs := []) rfl (by simp) rfl (by repeat' first | exact trivial | refine ⟨?_, ?_⟩) ⟨rfl, trivial, trivial⟩) ?_
    refine aw_ret ?_
    have hr := Option.some.inj h
    subst hr
    exact ret_objs (.inr rfl) [] (objs' := []) (new := []) rfl (by simp) (by simp) rfl (by repeat' first | exact trivial | refine ⟨?_, ?_⟩) rfl rfl (by repeat' first | exact trivial | refine ⟨?_, ?_⟩) (fun _ => ⟨by simp [V.flat, V.flatA, V.flatC, D.flat], flat_nil⟩) ⟨rfl, rfl, rfl⟩
  · have h := if_bf h hb5
    refine awl_skip rfl rfl ?_
    refine awl_skip rfl rfl ?_
    refine awl_val hτ rfl rfl rfl ?_
    refine awl_val hτ rfl rfl rfl ?_
    refine awl_nil ?_
    refine aw_weak (weak_ofP [] (l := [(2, .d (.bool false))]) (objs := []) rfl (by simp) rfl (by repeat' first | exact trivial | refine ⟨?_, ?_⟩) ⟨rfl, trivial, trivial⟩) ?_
    refine aw_ret ?_
    have hr := Option.some.inj h
    subst hr
    exact ret_objs (.inr rfl) [] (objs' := []) (new := []) rfl (by simp) (by simp) rfl (by repeat' first | exact trivial | refine ⟨?_, ?_⟩) rfl rfl (by repeat' first | exact trivial | refine ⟨?_, ?_⟩) (fun _ => ⟨by simp [V.flat, V.flatA, V.flatC, D.flat], flat_nil⟩) ⟨rfl, rfl, rfl⟩
theorem spec_l07Positive_ok (n : Nat) (x_ : Nat) {r : Bool} (h : m_spec_l07Positive n x_ = some r) : ACall prog false 98 [.d (.fl .f32 x_)] [] (fun v o new => v = .d (.bool r) ∧ o = [] ∧ new = []) := spec_l07Positive_ok_fr0 false n x_ h
theorem spec_l07Positive_ok_fr (n : Nat) (x_ : Nat) {r : Bool} (h : m_spec_l07Positive n x_ = some r) : ACall prog true 98 [.d (.fl .f32 x_)] [] (fun v o new => v = .d (.bool r) ∧ o = [] ∧ new = []) := spec_l07Positive_ok_fr0 true n x_ h

def m_spec_l07Is_j3 (n : Nat) (k68 : Int → Option Bool) (v51 : Int) : Option Bool :=
  k68 (w64 (v51 + (1 : Int)))
def m_spec_l07Is_j5 (n : Nat) (k68 : Int → Option Bool) (v51 : Int) (v99 : Bool) : Option Bool :=
  if v99 = true then
    some false
  else
    m_spec_l07Is_j3 n k68 v51
def m_spec_l07Is_j4 (n : Nat) (c_ : SCurve) (k68 : Int → Option Bool) (v51 : Int) : Option Bool :=
  if v51 > (0 : Int) then
    (getI c_.Currents (w64 (v51 - (1 : Int)))).bind fun x103 =>
    (getI c_.Currents v51).bind fun x104 =>
    if (fcmp .geq .f32 x103 x104) = true then
      m_spec_l07Is_j5 n k68 v51 true
    else
      (getI c_.Times (w64 (v51 - (1 : Int)))).bind fun x106 =>
      (getI c_.Times v51).bind fun x107 =>
      m_spec_l07Is_j5 n k68 v51 (fcmp .lss .f32 x106 x107)
  else
    m_spec_l07Is_j5 n k68 v51 false
def m_spec_l07Is_j6 (n : Nat) (c_ : SCurve) (k68 : Int → Option Bool) (v51 : Int) (v115 : Bool) : Option Bool :=
  if v115 = true then
    some false
  else
    m_spec_l07Is_j4 n c_ k68 v51
def m_spec_l07Is_l2 (n : Nat) (c_ : SCurve) : Nat → Int → Option Bool
  | 0, _ => none
  | m67 + 1, v51 =>
    if v51 < (c_.Currents.length : Int) then
      (getI c_.Currents v51).bind fun x118 =>
      (m_spec_l07Positive n x118).bind fun x119 =>
      if x119 = true then
        (getI c_.Times v51).bind fun x121 =>
        (m_spec_l07Positive n x121).bind fun x122 =>
        m_spec_l07Is_j6 n c_ (m_spec_l07Is_l2 n c_ m67) v51 (!x122)
      else
        m_spec_l07Is_j6 n c_ (m_spec_l07Is_l2 n c_ m67) v51 true
    else
      some true
def m_spec_l07Is_j1 (n : Nat) (c_ : SCurve) : Option Bool :=
  m_spec_l07Is_l2 n c_ n (0 : Int)
def m_spec_l07Is_j7 (n : Nat) (c_ : SCurve) (v127 : Bool) : Option Bool :=
  if v127 = true then
    some false
  else
    m_spec_l07Is_j1 n c_
def m_spec_l07Is (n : Nat) (c_ : SCurve) : Option Bool :=
  if (c_.Currents.length : Int) < (2 : Int) then
    m_spec_l07Is_j7 n c_ true
  else
    if (c_.Currents.length : Int) > (16 : Int) then
      m_spec_l07Is_j7 n c_ true
    else
      m_spec_l07Is_j7 n c_ (!(decide ((c_.Times.length : Int) = (c_.Currents.length : Int))))
theorem spec_l07Is_ok (n : Nat) (c_ : SCurve) {r : Bool} (h : m_spec_l07Is n c_ = some r) : ACall prog false 69 [.ptr 0 0] [.box [.d (.sl false (c_.Currents.map eNatf32)), .d (.sl false (c_.Times.map eNatf32))]] (fun v o new => v = .d (.bool r) ∧ o = [.box [.d (.sl false (c_.Currents.map eNatf32)), .d (.sl false (c_.Times.map eNatf32))]] ∧ new = []) := by
  refine acall_of_aw hτ func69 rfl (by simp) (by simp) ?_
  unfold m_spec_l07Is at h
  refine aw_seq ?_
  refine aw_region ?_
  refine awl_val hτ rfl rfl rfl ?_
  refine awl_nil ?_
  refine aw_seq ?_
  refine aw_region ?_
  refine awl_val hτ rfl rfl rfl ?_
  refine awl_val hτ rfl rfl rfl ?_
  refine awl_val hτ rfl rfl rfl ?_
  refine awl_val hτ rfl rfl rfl ?_
  refine awl_val hτ (v := .d (.int .i64 (c_.Currents.length : Int))) rfl rfl (Eq.trans rfl (or_len (f := eNatf32) c_.Currents)) ?_
  refine awl_val hτ rfl rfl rfl ?_
  refine awl_nil ?_
  refine aw_hk1 (ι := Unit) (fun _ => St.of [(0, .ptr 0 0)] [.box [.d (.sl false (c_.Currents.map eNatf32)), .d (.sl false (c_.Times.map eNatf32))]] f69.ntmps 1) (fun _ => m_spec_l07Is_j1 n c_ = some r) ?_ (fun hk123 => ?_)
  · rintro ⟨⟩ h
    replace h : m_spec_l07Is_j1 n c_ = some r := h
    unfold m_spec_l07Is_j1 at h
    refine aw_seq ?_
    refine aw_seq ?_
    refine aw_region ?_
    refine awl_val hτ rfl rfl rfl ?_
    refine awl_val hτ rfl rfl rfl ?_
    refine awl_val hτ rfl rfl rfl ?_
    refine awl_val hτ rfl rfl rfl ?_
    refine awl_val hτ (v := .d (.int .i64 (c_.Currents.length : Int))) rfl rfl (Eq.trans rfl (or_len (f := eNatf32) c_.Currents)) ?_
    refine awl_val hτ rfl rfl rfl ?_
    refine awl_nil ?_
    refine aw_block ?_
    refine aw_loop (ι := Nat × Int) (fun (m67, v51) => St.of [(0, .ptr 0 0), (29, .d (.int .i64 (c_.Currents.length : Int))), (30, .d (.int .i64 v51))] [.box [.d (.sl false (c_.Currents.map eNatf32)), .d (.sl false (c_.Times.map eNatf32))]] f69.ntmps 1) (fun (m67, v51) => m_spec_l07Is_l2 n c_ m67 v51 = some r) (fun x => x.1) (n, (0 : Int)) h (weak_ofP [0] (l := [(0, .ptr 0 0), (29, .d (.int .i64 (c_.Currents.length : Int))), (30, .d (.int .i64 (0 : Int)))]) (objs := [.box [.d (.sl false (c_.Currents.map eNatf32)), .d (.sl false (c_.Times.map eNatf32))]]) rfl (by simp) rfl (by repeat' first | exact trivial | refine ⟨?_, ?_⟩) ⟨rfl, trivial, rfl, trivial, rfl, trivial, trivial⟩) ?_
    rintro ⟨m67, v51⟩ h
    replace h : m_spec_l07Is_l2 n c_ m67 v51 = some r := h
    rcases m67 with _ | m67
    · rw [m_spec_l07Is_l2] at h; cases h
    rw [m_spec_l07Is_l2] at h
    refine aw_seq ?_
    refine aw_region ?_
    refine awl_val hτ rfl rfl rfl ?_
    refine awl_nil ?_
    refine aw_seq ?_
    refine aw_cond rfl (fun hc69 => ?_) (fun hc69 => ?_)
    · have h := if_t h hc69
      refine aw_skip ?_
      refine aw_hk1 (ι := Unit) (fun _ => St.of [(0, .ptr 0 0), (29, .d (.int .i64 (c_.Currents.length : Int))), (30, .d (.int .i64 v51))] [.box [.d (.sl false (c_.Currents.map eNatf32)), .d (.sl false (c_.Times.map eNatf32))]] f69.ntmps 1) (fun _ => m_spec_l07Is_j3 n (m_spec_l07Is_l2 n c_ m67) v51 = some r) ?_ (fun hk84 => ?_)
      · rintro ⟨⟩ h
        replace h : m_spec_l07Is_j3 n (m_spec_l07Is_l2 n c_ m67) v51 = some r := h
        unfold m_spec_l07Is_j3 at h
        refine aw_region ?_
        refine awl_val hτ rfl rfl rfl ?_
        refine awl_val hτ rfl rfl rfl ?_
        refine awl_nil ?_
        exact ⟨(m67, (w64 (v51 + (1 : Int)))), h, Nat.lt_succ_self m67, (weak_ofP [0] (l := [(0, .ptr 0 0), (29, .d (.int .i64 (c_.Currents.length : Int))), (30, .d (.int .i64 (w64 (v51 + (1 : Int)))))]) (objs := [.box [.d (.sl false (c_.Currents.map eNatf32)), .d (.sl false (c_.Times.map eNatf32))]]) rfl (by simp) rfl (by repeat' first | exact trivial | refine ⟨?_, ?_⟩) ⟨rfl, trivial, rfl, trivial, rfl, trivial, trivial⟩)⟩
      · refine aw_seq ?_
        refine aw_block ?_
        refine aw_seq ?_
        refine aw_region ?_
        refine awl_val hτ rfl rfl rfl ?_
        refine awl_val hτ rfl rfl rfl ?_
        refine awl_nil ?_
        refine aw_hk1 (ι := Unit) (fun _ => St.of [(0, .ptr 0 0), (4, .d (.int .i64 v51)), (29, .d (.int .i64 (c_.Currents.length : Int))), (30, .d (.int .i64 v51))] [.box [.d (.sl false (c_.Currents.map eNatf32)), .d (.sl false (c_.Times.map eNatf32))]] f69.ntmps 1) (fun _ => m_spec_l07Is_j4 n c_ (m_spec_l07Is_l2 n c_ m67) v51 = some r) ?_ (fun hk108 => ?_)
        · rintro ⟨⟩ h
          replace h : m_spec_l07Is_j4 n c_ (m_spec_l07Is_l2 n c_ m67) v51 = some r := h
          unfold m_spec_l07Is_j4 at h
          refine aw_hk1 (ι := Bool) (fun v99 => St.of [(0, .ptr 0 0), (29, .d (.int .i64 (c_.Currents.length : Int))), (30, .d (.int .i64 v51)), (90, .d (.bool v99))] [.box [.d (.sl false (c_.Currents.map eNatf32)), .d (.sl false (c_.Times.map eNatf32))]] f69.ntmps 1) (fun v99 => m_spec_l07Is_j5 n (m_spec_l07Is_l2 n c_ m67) v51 v99 = some r) ?_ (fun hk101 => ?_)
          · rintro v99 h
            replace h : m_spec_l07Is_j5 n (m_spec_l07Is_l2 n c_ m67) v51 v99 = some r := h
            unfold m_spec_l07Is_j5 at h
            refine aw_cond rfl (fun hc100 => ?_) (fun hc100 => ?_)
            · have h := if_bt h hc100
              refine aw_seq ?_
              refine aw_region ?_
              refine awl_val hτ rfl rfl rfl ?_
              refine awl_nil ?_
              refine aw_weak (weak_ofP [0] (l := [(2, .d (.bool false))]) (objs := [.box [.d (.sl false (c_.Currents.map eNatf32)), .d (.sl false (c_.Times.map eNatf32))]]) rfl (by simp) rfl (by repeat' first | exact trivial | refine ⟨?_, ?_⟩) ⟨rfl, trivial, trivial⟩) ?_
              refine aw_ret ?_
              have hr := Option.some.inj h
              subst hr
              exact ret_objs (.inr rfl) [] (objs' := [.box [.d (.sl false (c_.Currents.map eNatf32)), .d (.sl false (c_.Times.map eNatf32))]]) (new := []) rfl (by simp) (by simp) rfl (by repeat' first | exact trivial | refine ⟨?_, ?_⟩) rfl rfl (by repeat' first | exact trivial | refine ⟨?_, ?_⟩) (fun h => nomatch h) ⟨rfl, rfl, rfl⟩
            · have h := if_bf h hc100
              refine aw_skip ?_
              refine aw_weak (weak_ofP [0] (l := [(0, .ptr 0 0), (29, .d (.int .i64 (c_.Currents.length : Int))), (30, .d (.int .i64 v51))]) (objs := [.box [.d (.sl false (c_.Currents.map eNatf32)), .d (.sl false (c_.Times.map eNatf32))]]) rfl (by simp) rfl (by repeat' first | exact trivial | refine ⟨?_, ?_⟩) ⟨rfl, trivial, rfl, trivial, rfl, trivial, trivial⟩) ?_
              exact hk84 () h
          · refine aw_seq ?_
            refine any_start ?_
            refine any_val hτ [] 0 rfl rfl rfl rfl rfl ?_
            refine any_val hτ [] 1 rfl rfl rfl rfl rfl ?_
            refine any_val hτ [] 2 rfl rfl rfl rfl rfl ?_
            refine any_split 55 rfl (fun hb102 => ?_) (fun hb102 => ?_)
            · have h := if_t h hb102
              refine any_val hτ [] 3 rfl rfl rfl rfl rfl ?_
              refine any_val hτ [] 4 rfl rfl rfl rfl rfl ?_
              refine any_val hτ [0] 5 rfl rfl rfl rfl rfl ?_
              refine any_val hτ [0] 6 rfl rfl rfl rfl rfl ?_
              refine any_val hτ [] 7 rfl rfl rfl rfl rfl ?_
              refine any_val hτ [] 8 rfl rfl rfl rfl rfl ?_
              refine bnd_elim h fun x103 hx103 h => ?_
              refine any_elem hτ [] 9 rfl rfl rfl rfl rfl (getI_some hx103).1 (map_getI hx103) rfl ?_
              refine any_val hτ [] 10 rfl rfl rfl rfl rfl ?_
              refine any_val hτ [] 11 rfl rfl rfl rfl rfl ?_
              refine any_val hτ [] 12 rfl rfl rfl rfl rfl ?_
              refine any_val hτ [0] 13 rfl rfl rfl rfl rfl ?_
              refine any_val hτ [0] 14 rfl rfl rfl rfl rfl ?_
              refine any_val hτ [] 15 rfl rfl rfl rfl rfl ?_
              refine bnd_elim h fun x104 hx104 h => ?_
              refine any_elem hτ [] 16 rfl rfl rfl rfl rfl (getI_some hx104).1 (map_getI hx104) rfl ?_
              refine any_val hτ [] 17 rfl rfl rfl rfl rfl ?_
              refine any_val hτ [] 18 rfl rfl rfl rfl rfl ?_
              refine any_val hτ [] 19 rfl rfl rfl rfl rfl ?_
              refine any_split 72 rfl (fun hb105 => ?_) (fun hb105 => ?_)
              · have h := if_bt h hb105
                refine any_skip 20 rfl rfl rfl ?_
                refine any_skip 21 rfl rfl rfl ?_
                refine any_skip 22 rfl rfl rfl ?_
                refine any_skip 23 rfl rfl rfl ?_
                refine any_skip 24 rfl rfl rfl ?_
                refine any_skip 25 rfl rfl rfl ?_
                refine any_skip 26 rfl rfl rfl ?_
                refine any_skip 27 rfl rfl rfl ?_
                refine any_skip 28 rfl rfl rfl ?_
                refine any_skip 29 rfl rfl rfl ?_
                refine any_skip 30 rfl rfl rfl ?_
                refine any_skip 31 rfl rfl rfl ?_
                refine any_skip 32 rfl rfl rfl ?_
                refine any_skip 33 rfl rfl rfl ?_
                refine any_skip 34 rfl rfl rfl ?_
                refine any_skip 35 rfl rfl rfl ?_
                refine any_val hτ [] 36 rfl rfl rfl rfl rfl ?_
                refine any_val hτ [] 37 rfl rfl rfl rfl rfl ?_
                refine any_done mixed (by kernel_rfl) ?_
                refine aw_weak (weak_ofP [0] (l := [(0, .ptr 0 0), (29, .d (.int .i64 (c_.Currents.length : Int))), (30, .d (.int .i64 v51)), (90, .d (.bool true))]) (objs := [.box [.d (.sl false (c_.Currents.map eNatf32)), .d (.sl false (c_.Times.map eNatf32))]]) rfl (by simp) rfl (by repeat' first | exact trivial | refine ⟨?_, ?_⟩) ⟨rfl, trivial, rfl, trivial, rfl, trivial, rfl, trivial, trivial⟩) ?_
                exact hk101 true h
              · have h := if_bf h hb105
                refine any_val hτ [] 20 rfl rfl rfl rfl rfl ?_
                refine any_val hτ [] 21 rfl rfl rfl rfl rfl ?_
                refine any_val hτ [0] 22 rfl rfl rfl rfl rfl ?_
                refine any_val hτ [0] 23 rfl rfl rfl rfl rfl ?_
                refine any_val hτ [] 24 rfl rfl rfl rfl rfl ?_
                refine any_val hτ [] 25 rfl rfl rfl rfl rfl ?_
                refine bnd_elim h fun x106 hx106 h => ?_
                refine any_elem hτ [] 26 rfl rfl rfl rfl rfl (getI_some hx106).1 (map_getI hx106) rfl ?_
                refine any_val hτ [] 27 rfl rfl rfl rfl rfl ?_
                refine any_val hτ [] 28 rfl rfl rfl rfl rfl ?_
                refine any_val hτ [] 29 rfl rfl rfl rfl rfl ?_
                refine any_val hτ [0] 30 rfl rfl rfl rfl rfl ?_
                refine any_val hτ [0] 31 rfl rfl rfl rfl rfl ?_
                refine any_val hτ [] 32 rfl rfl rfl rfl rfl ?_
                refine bnd_elim h fun x107 hx107 h => ?_
                refine any_elem hτ [] 33 rfl rfl rfl rfl rfl (getI_some hx107).1 (map_getI hx107) rfl ?_
                refine any_val hτ [] 34 rfl rfl rfl rfl rfl ?_
                refine any_val hτ [] 35 rfl rfl rfl rfl rfl ?_
                refine any_val hτ [] 36 rfl rfl rfl rfl rfl ?_
                refine any_val hτ [] 37 rfl rfl rfl rfl rfl ?_
                refine any_done mixed (by kernel_rfl) ?_
                refine aw_weak (weak_ofP [0] (l := [(0, .ptr 0 0), (29, .d (.int .i64 (c_.Currents.length : Int))), (30, .d (.int .i64 v51)), (90, .d (.bool (fcmp .lss .f32 x106 x107)))]) (objs := [.box [.d (.sl false (c_.Currents.map eNatf32)), .d (.sl false (c_.Times.map eNatf32))]]) rfl (by simp) rfl (by repeat' first | exact trivial | refine ⟨?_, ?_⟩) ⟨rfl, trivial, rfl, trivial, rfl, trivial, rfl, trivial, trivial⟩) ?_
                exact hk101 (fcmp .lss .f32 x106 x107) h
            · have h := if_f h hb102
              refine any_skip 3 rfl rfl rfl ?_
              refine any_skip 4 rfl rfl rfl ?_
              refine any_skip 5 rfl rfl rfl ?_
              refine any_skip 6 rfl rfl rfl ?_
              refine any_skip 7 rfl rfl rfl ?_
              refine any_skip 8 rfl rfl rfl ?_
              refine any_skip 9 rfl rfl rfl ?_
              refine any_skip 10 rfl rfl rfl ?_
              refine any_skip 11 rfl rfl rfl ?_
              refine any_skip 12 rfl rfl rfl ?_
              refine any_skip 13 rfl rfl rfl ?_
              refine any_skip 14 rfl rfl rfl ?_
              refine any_skip 15 rfl rfl rfl ?_
              refine any_skip 16 rfl rfl rfl ?_
              refine any_skip 17 rfl rfl rfl ?_
              refine any_skip 18 rfl rfl rfl ?_
              refine any_skip 19 rfl rfl rfl ?_
              refine any_skip 20 rfl rfl rfl ?_
              refine any_skip 21 rfl rfl rfl ?_
              refine any_skip 22 rfl rfl rfl ?_
              refine any_skip 23 rfl rfl rfl ?_
              refine any_skip 24 rfl rfl rfl ?_
              refine any_skip 25 rfl rfl rfl ?_
              refine any_skip 26 rfl rfl rfl ?_
              refine any_skip 27 rfl rfl rfl ?_
              refine any_skip 28 rfl rfl rfl ?_
              refine any_skip 29 rfl rfl rfl ?_
              refine any_skip 30 rfl rfl rfl ?_
              refine any_skip 31 rfl rfl rfl ?_
              refine any_skip 32 rfl rfl rfl ?_
              refine any_skip 33 rfl rfl rfl ?_
              refine any_skip 34 rfl rfl rfl ?_
              refine any_skip 35 rfl rfl rfl ?_
              refine any_skip 36 rfl rfl rfl ?_
              refine any_val hτ [] 37 rfl rfl rfl rfl rfl ?_
              refine any_done mixed (by kernel_rfl) ?_
              refine aw_weak (weak_ofP [0] (l := [(0, .ptr 0 0), (29, .d (.int .i64 (c_.Currents.length : Int))), (30, .d (.int .i64 v51)), (90, .d (.bool false))]) (objs := [.box [.d (.sl false (c_.Currents.map eNatf32)), .d (.sl false (c_.Times.map eNatf32))]]) rfl (by simp) rfl (by repeat' first | exact trivial | refine ⟨?_, ?_⟩) ⟨rfl, trivial, rfl, trivial, rfl, trivial, rfl, trivial, trivial⟩) ?_
              exact hk101 false h
        · refine aw_seq ?_
          refine aw_hk1 (ι := Bool) (fun v115 => St.of [(0, .ptr 0 0), (4, .d (.int .i64 v51)), (29, .d (.int .i64 (c_.Currents.length : Int))), (30, .d (.int .i64 v51)), (52, .d (.bool v115))] [.box [.d (.sl false (c_.Currents.map eNatf32)), .d (.sl false (c_.Times.map eNatf32))]] f69.ntmps 1) (fun v115 => m_spec_l07Is_j6 n c_ (m_spec_l07Is_l2 n c_ m67) v51 v115 = some r) ?_ (fun hk117 => ?_)
          · rintro v115 h
            replace h : m_spec_l07Is_j6 n c_ (m_spec_l07Is_l2 n c_ m67) v51 v115 = some r := h
            unfold m_spec_l07Is_j6 at h
            refine aw_cond rfl (fun hc116 => ?_) (fun hc116 => ?_)
            · have h := if_bt h hc116
              refine aw_seq ?_
              refine aw_region ?_
              refine awl_val hτ rfl rfl rfl ?_
              refine awl_nil ?_
              refine aw_weak (weak_ofP [0] (l := [(2, .d (.bool false))]) (objs := [.box [.d (.sl false (c_.Currents.map eNatf32)), .d (.sl false (c_.Times.map eNatf32))]]) rfl (by simp) rfl (by repeat' first | exact trivial | refine ⟨?_, ?_⟩) ⟨rfl, trivial, trivial⟩) ?_
              refine aw_ret ?_
              have hr := Option.some.inj h
              subst hr
              exact ret_objs (.inr rfl) [] (objs' := [.box [.d (.sl false (c_.Currents.map eNatf32)), .d (.sl false (c_.Times.map eNatf32))]]) (new := []) rfl (by simp) (by simp) rfl (by repeat' first | exact trivial | refine ⟨?_, ?_⟩) rfl rfl (by repeat' first | exact trivial | refine ⟨?_, ?_⟩) (fun h => nomatch h) ⟨rfl, rfl, rfl⟩
            · have h := if_bf h hc116
              refine aw_skip ?_
              refine aw_weak (weak_ofP [0] (l := [(0, .ptr 0 0), (4, .d (.int .i64 v51)), (29, .d (.int .i64 (c_.Currents.length : Int))), (30, .d (.int .i64 v51))]) (objs := [.box [.d (.sl false (c_.Currents.map eNatf32)), .d (.sl false (c_.Times.map eNatf32))]]) rfl (by simp) rfl (by repeat' first | exact trivial | refine ⟨?_, ?_⟩) ⟨rfl, trivial, rfl, trivial, rfl, trivial, rfl, trivial, trivial⟩) ?_
              exact hk108 () h
          · refine aw_seq ?_
            refine aw_region ?_
            refine awl_val hτ rfl rfl rfl ?_
            refine awl_val hτ rfl rfl rfl ?_
            refine awl_val hτ rfl rfl rfl ?_
            refine awl_val hτ rfl rfl rfl ?_
            refine awl_val hτ rfl rfl rfl ?_
            refine bnd_elim h fun x118 hx118 h => ?_
            refine awl_elem hτ rfl rfl rfl (getI_some hx118).1 (map_getI hx118) rfl ?_
            refine awl_val hτ rfl rfl rfl ?_
            refine bnd_elim h fun x119 hx119 h => ?_
            refine awl_callP hτ false [] rfl rfl rfl (enterOk func98 rfl rfl) rfl rfl (by simp) ⟨trivial, trivial⟩ (by repeat' first | exact trivial | refine ⟨?_, ?_⟩) (spec_l07Positive_ok n x118 hx119) ?_
            rintro r0 o0 n0 ⟨rfl, rfl, rfl⟩ -
            refine awl_val hτ rfl rfl rfl ?_
            refine awl_weak (weak_ofP [0] (l := [(0, .ptr 0 0), (4, .d (.int .i64 v51)), (29, .d (.int .i64 (c_.Currents.length : Int))), (30, .d (.int .i64 v51)), (41, .d (.bool (!x119)))]) (objs := [.box [.d (.sl false (c_.Currents.map eNatf32)), .d (.sl false (c_.Times.map eNatf32))]]) rfl (by simp) rfl (by repeat' first | exact trivial | refine ⟨?_, ?_⟩) ⟨rfl, trivial, rfl, trivial, rfl, trivial, rfl, trivial, rfl, trivial, trivial⟩) ?_
            refine awl_val hτ rfl rfl rfl ?_
            refine awl_split 42 rfl (fun hb120 => ?_) (fun hb120 => ?_)
            · have hb120 := not_t hb120
              have h := if_bf h hb120
              refine awl_skip rfl rfl ?_
              refine awl_skip rfl rfl ?_
              refine awl_skip rfl rfl ?_
              refine awl_skip rfl rfl ?_
              refine awl_skip rfl rfl ?_
              refine awl_skip rfl rfl ?_
              refine awl_skip rfl rfl ?_
              refine awl_skip rfl rfl ?_
              refine awl_skip rfl rfl ?_
              refine awl_val hτ rfl rfl rfl ?_
              refine awl_nil ?_
              refine aw_weak (weak_ofP [0] (l := [(0, .ptr 0 0), (4, .d (.int .i64 v51)), (29, .d (.int .i64 (c_.Currents.length : Int))), (30, .d (.int .i64 v51)), (52, .d (.bool true))]) (objs := [.box [.d (.sl false (c_.Currents.map eNatf32)), .d (.sl false (c_.Times.map eNatf32))]]) rfl (by simp) rfl (by repeat' first | exact trivial | refine ⟨?_, ?_⟩) ⟨rfl, trivial, rfl, trivial, rfl, trivial, rfl, trivial, rfl, trivial, trivial⟩) ?_
              exact hk117 true h
            · have hb120 := not_f hb120
              have h := if_bt h hb120
              refine awl_val hτ rfl rfl rfl ?_
              refine awl_val hτ rfl rfl rfl ?_
              refine awl_val hτ rfl rfl rfl ?_
              refine awl_val hτ rfl rfl rfl ?_
              refine awl_val hτ rfl rfl rfl ?_
              refine bnd_elim h fun x121 hx121 h => ?_
              refine awl_elem hτ rfl rfl rfl (getI_some hx121).1 (map_getI hx121) rfl ?_
              refine awl_val hτ rfl rfl rfl ?_
              refine bnd_elim h fun x122 hx122 h => ?_
              refine awl_callP hτ false [] rfl rfl rfl (enterOk func98 rfl rfl) rfl rfl (by simp) ⟨trivial, trivial⟩ (by repeat' first | exact trivial | refine ⟨?_, ?_⟩) (spec_l07Positive_ok n x121 hx122) ?_
              rintro r0 o0 n0 ⟨rfl, rfl, rfl⟩ -
              refine awl_val hτ rfl rfl rfl ?_
              refine awl_val hτ rfl rfl rfl ?_
              refine awl_nil ?_
              refine aw_weak (weak_ofP [0] (l := [(0, .ptr 0 0), (4, .d (.int .i64 v51)), (29, .d (.int .i64 (c_.Currents.length : Int))), (30, .d (.int .i64 v51)), (52, .d (.bool (!x122)))]) (objs := [.box [.d (.sl false (c_.Currents.map eNatf32)), .d (.sl false (c_.Times.map eNatf32))]]) rfl (by simp) rfl (by repeat' first | exact trivial | refine ⟨?_, ?_⟩) ⟨rfl, trivial, rfl, trivial, rfl, trivial, rfl, trivial, rfl, trivial, trivial⟩) ?_
              exact hk117 (!x122) h
    · have h := if_f h hc69
      refine aw_exit ?_
      refine aw_seq ?_
      refine aw_region ?_
      refine awl_val hτ rfl rfl rfl ?_
      refine awl_nil ?_
      refine aw_weak (weak_ofP [0] (l := [(2, .d (.bool true))]) (objs := [.box [.d (.sl false (c_.Currents.map eNatf32)), .d (.sl false (c_.Times.map eNatf32))]]) rfl (by simp) rfl (by repeat' first | exact trivial | refine ⟨?_, ?_⟩) ⟨rfl, trivial, trivial⟩) ?_
      refine aw_ret ?_
      have hr := Option.some.inj h
      subst hr
      exact ret_objs (.inr rfl) [] (objs' := [.box [.d (.sl false (c_.Currents.map eNatf32)), .d (.sl false (c_.Times.map eNatf32))]]) (new := []) rfl (by simp) (by simp) rfl (by repeat' first | exact trivial | refine ⟨?_, ?_⟩) rfl rfl (by repeat' first | exact trivial | refine ⟨?_, ?_⟩) (fun h => nomatch h) ⟨rfl, rfl, rfl⟩
  · refine aw_seq ?_
    refine aw_hk1 (ι := Bool) (fun v127 => St.of [(0, .ptr 0 0), (24, .d (.bool v127))] [.box [.d (.sl false (c_.Currents.map eNatf32)), .d (.sl false (c_.Times.map eNatf32))]] f69.ntmps 1) (fun v127 => m_spec_l07Is_j7 n c_ v127 = some r) ?_ (fun hk129 => ?_)
    · rintro v127 h
      replace h : m_spec_l07Is_j7 n c_ v127 = some r := h
      unfold m_spec_l07Is_j7 at h
      refine aw_cond rfl (fun hc128 => ?_) (fun hc128 => ?_)
      · have h := if_bt h hc128
        refine aw_seq ?_
        refine aw_region ?_
        refine awl_val hτ rfl rfl rfl ?_
        refine awl_nil ?_
        refine aw_weak (weak_ofP [0] (l := [(2, .d (.bool false))]) (objs := [.box [.d (.sl false (c_.Currents.map eNatf32)), .d (.sl false (c_.Times.map eNatf32))]]) rfl (by simp) rfl (by repeat' first | exact trivial | refine ⟨?_, ?_⟩) ⟨rfl, trivial, trivial⟩) ?_
        refine aw_ret ?_
        have hr := Option.some.inj h
        subst hr
        exact ret_objs (.inr rfl) [] (objs' := [.box [.d (.sl false (c_.Currents.map eNatf32)), .d (.sl false (c_.Times.map eNatf32))]]) (new := []) rfl (by simp) (by simp) rfl (by repeat' first | exact trivial | refine ⟨?_, ?_⟩) rfl rfl (by repeat' first | exact trivial | refine ⟨?_, ?_⟩) (fun h => nomatch h) ⟨rfl, rfl, rfl⟩
      · have h := if_bf h hc128
        refine aw_skip ?_
        refine aw_weak (weak_ofP [0] (l := [(0, .ptr 0 0)]) (objs := [.box [.d (.sl false (c_.Currents.map eNatf32)), .d (.sl false (c_.Times.map eNatf32))]]) rfl (by simp) rfl (by repeat' first | exact trivial | refine ⟨?_, ?_⟩) ⟨rfl, trivial, trivial⟩) ?_
        exact hk123 () h
    · refine aw_seq ?_
      refine aw_weak (weak_ofP [0] (l := [(0, .ptr 0 0), (3, .d (.int .i64 (c_.Currents.length : Int)))]) (objs := [.box [.d (.sl false (c_.Currents.map eNatf32)), .d (.sl false (c_.Times.map eNatf32))]]) rfl (by simp) rfl (by repeat' first | exact trivial | refine ⟨?_, ?_⟩) ⟨rfl, trivial, rfl, trivial, trivial⟩) ?_
      refine aw_region ?_
      refine awl_val hτ rfl rfl rfl ?_
      refine awl_val hτ rfl rfl rfl ?_
      refine awl_val hτ rfl rfl rfl ?_
      refine awl_split 12 rfl (fun hb130 => ?_) (fun hb130 => ?_)
      · have h := if_t h hb130
        refine awl_skip rfl rfl ?_
        refine awl_skip rfl rfl ?_
        refine awl_val hτ rfl rfl rfl ?_
        refine awl_val hτ rfl rfl rfl ?_
        refine awl_skip rfl rfl ?_
        refine awl_skip rfl rfl ?_
        refine awl_skip rfl rfl ?_
        refine awl_skip rfl rfl ?_
        refine awl_skip rfl rfl ?_
        refine awl_weak (weak_ofP [0] (l := [(0, .ptr 0 0), (3, .d (.int .i64 (c_.Currents.length : Int))), (16, .d (.bool true)), (21, .und)]) (objs := [.box [.d (.sl false (c_.Currents.map eNatf32)), .d (.sl false (c_.Times.map eNatf32))]]) rfl (by simp) rfl (by repeat' first | exact trivial | refine ⟨?_, ?_⟩) ⟨rfl, trivial, rfl, trivial, rfl, trivial, rfl, trivial, trivial⟩) ?_
        refine awl_skip rfl rfl ?_
        refine awl_skip rfl rfl ?_
        refine awl_val hτ rfl rfl rfl ?_
        refine awl_nil ?_
        refine aw_weak (weak_ofP [0] (l := [(0, .ptr 0 0), (24, .d (.bool true))]) (objs := [.box [.d (.sl false (c_.Currents.map eNatf32)), .d (.sl false (c_.Times.map eNatf32))]]) rfl (by simp) rfl (by repeat' first | exact trivial | refine ⟨?_, ?_⟩) ⟨rfl, trivial, rfl, trivial, trivial⟩) ?_
        exact hk129 true h
      · have h := if_f h hb130
        refine awl_val hτ rfl rfl rfl ?_
        refine awl_val hτ rfl rfl rfl ?_
        refine awl_val hτ rfl rfl rfl ?_
        refine awl_val hτ rfl rfl rfl ?_
        refine awl_split 16 rfl (fun hb131 => ?_) (fun hb131 => ?_)
        · have h := if_t h hb131
          refine awl_skip rfl rfl ?_
          refine awl_skip rfl rfl ?_
          refine awl_skip rfl rfl ?_
          refine awl_skip rfl rfl ?_
          refine awl_skip rfl rfl ?_
          refine awl_weak (weak_ofP [0] (l := [(0, .ptr 0 0), (3, .d (.int .i64 (c_.Currents.length : Int))), (16, .d (.bool true)), (21, .und)]) (objs := [.box [.d (.sl false (c_.Currents.map eNatf32)), .d (.sl false (c_.Times.map eNatf32))]]) rfl (by simp) rfl (by repeat' first | exact trivial | refine ⟨?_, ?_⟩) ⟨rfl, trivial, rfl, trivial, rfl, trivial, rfl, trivial, trivial⟩) ?_
          refine awl_skip rfl rfl ?_
          refine awl_skip rfl rfl ?_
          refine awl_val hτ rfl rfl rfl ?_
          refine awl_nil ?_
          refine aw_weak (weak_ofP [0] (l := [(0, .ptr 0 0), (24, .d (.bool true))]) (objs := [.box [.d (.sl false (c_.Currents.map eNatf32)), .d (.sl false (c_.Times.map eNatf32))]]) rfl (by simp) rfl (by repeat' first | exact trivial | refine ⟨?_, ?_⟩) ⟨rfl, trivial, rfl, trivial, trivial⟩) ?_
          exact hk129 true h
        · have h := if_f h hb131
          refine awl_val hτ rfl rfl rfl ?_
          refine awl_val hτ rfl rfl rfl ?_
          refine awl_val hτ rfl rfl rfl ?_
          refine awl_val hτ rfl rfl rfl ?_
          refine awl_val hτ (v := .d (.int .i64 (c_.Times.length : Int))) rfl rfl (Eq.trans rfl (or_len (f := eNatf32) c_.Times)) ?_
          refine awl_weak (weak_ofP [0] (l := [(0, .ptr 0 0), (3, .d (.int .i64 (c_.Currents.length : Int))), (16, .d (.bool false)), (21, .d (.int .i64 (c_.Times.length : Int)))]) (objs := [.box [.d (.sl false (c_.Currents.map eNatf32)), .d (.sl false (c_.Times.map eNatf32))]]) rfl (by simp) rfl (by repeat' first | exact trivial | refine ⟨?_, ?_⟩) ⟨rfl, trivial, rfl, trivial, rfl, trivial, rfl, trivial, trivial⟩) ?_
          refine awl_val hτ rfl rfl rfl ?_
          refine awl_val hτ (v := .d (.bool (!(decide ((c_.Times.length : Int) = (c_.Currents.length : Int)))))) rfl rfl (or_ine _ _) ?_
          refine awl_val hτ rfl rfl rfl ?_
          refine awl_nil ?_
          refine aw_weak (weak_ofP [0] (l := [(0, .ptr 0 0), (24, .d (.bool (!(decide ((c_.Times.length : Int) = (c_.Currents.length : Int))))))]) (objs := [.box [.d (.sl false (c_.Currents.map eNatf32)), .d (.sl false (c_.Times.map eNatf32))]]) rfl (by simp) rfl (by repeat' first | exact trivial | refine ⟨?_, ?_⟩) ⟨rfl, trivial, rfl, trivial, trivial⟩) ?_
          exact hk129 (!(decide ((c_.Times.length : Int) = (c_.Currents.length : Int)))) h

def m_spec_l00In (n : Nat) (n_ : Int) (low_ : Int) (high_ : Int) : Option Bool :=
  if n_ ≥ low_ then
    some (decide (n_ ≤ high_))
  else
    some false
theorem spec_l00In_ok_fr0 (fr : Bool) (n : Nat) (n_ : Int) (low_ : Int) (high_ : Int) {r : Bool} (h : m_spec_l00In n n_ low_ high_ = some r) : ACall prog fr 70 [.d (.int .i64 n_), .d (.int .i64 low_), .d (.int .i64 high_)] [] (fun v o new => v = .d (.bool r) ∧ o = [] ∧ new = []) := by
  refine acall_of_aw hτ func70 rfl (by simp) (by simp) ?_
  unfold m_spec_l00In at h
  refine aw_seq ?_
  refine aw_region ?_
  refine awl_val hτ rfl rfl rfl ?_
  refine awl_nil ?_
  refine aw_seq ?_
  refine aw_region ?_
  refine awl_val hτ rfl rfl rfl ?_
  refine awl_val hτ rfl rfl rfl ?_
  refine awl_val hτ rfl rfl rfl ?_
  refine awl_val hτ rfl rfl rfl ?_
  refine awl_split 10 rfl (fun hb3 => ?_) (fun hb3 => ?_)
  · have h := if_t h hb3
    refine awl_val hτ rfl rfl rfl ?_
    refine awl_val hτ rfl rfl rfl ?_
    refine awl_val hτ rfl rfl rfl ?_
    refine awl_val hτ rfl rfl rfl ?_
    refine awl_val hτ rfl rfl rfl ?_
    refine awl_nil ?_
    refine aw_weak (weak_ofP [] (l := [(6, .d (.bool (decide (n_ ≤ high_))))]) (objs := []) rfl (by simp) rfl (by repeat' first | exact trivial | refine ⟨?_, ?_⟩) ⟨rfl, trivial, trivial⟩) ?_
    refine aw_ret ?_
    have hr := Option.some.inj h
    subst hr
    exact ret_objs (.inr rfl) [] (objs' := []) (new := []) rfl (by simp) (by simp) rfl (by repeat' first | exact trivial | refine ⟨?_, ?_⟩) rfl rfl (by repeat' first | exact trivial | refine ⟨?_, ?_⟩) (fun _ => ⟨by simp [V.flat, V.flatA, V.flatC, D.flat], flat_nil⟩) ⟨rfl, rfl, rfl⟩
  · have h := if_f h hb3
    refine awl_skip rfl rfl ?_
    refine awl_skip rfl rfl ?_
    refine awl_skip rfl rfl ?_
    refine awl_val hτ rfl rfl rfl ?_
    refine awl_val hτ rfl rfl rfl ?_
    refine awl_nil ?_
    refine aw_weak (weak_ofP [] (l := [(6, .d (.bool false))]) (objs := []) rfl (by simp) rfl (by repeat' first | exact trivial | refine ⟨?_, ?_⟩) ⟨rfl, trivial, trivial⟩) ?_
    refine aw_ret ?_
    have hr := Option.some.inj h
    subst hr
    exact ret_objs (.inr rfl) [] (objs' := []) (new := []) rfl (by simp) (by simp) rfl (by repeat' first | exact trivial | refine ⟨?_, ?_⟩) rfl rfl (by repeat' first | exact trivial | refine ⟨?_, ?_⟩) (fun _ => ⟨by simp [V.flat, V.flatA, V.flatC, D.flat], flat_nil⟩) ⟨rfl, rfl, rfl⟩
theorem spec_l00In_ok (n : Nat) (n_ : Int) (low_ : Int) (high_ : Int) {r : Bool} (h : m_spec_l00In n n_ low_ high_ = some r) : ACall prog false 70 [.d (.int .i64 n_), .d (.int .i64 low_), .d (.int .i64 high_)] [] (fun v o new => v = .d (.bool r) ∧ o = [] ∧ new = []) := spec_l00In_ok_fr0 false n n_ low_ high_ h
theorem spec_l00In_ok_fr (n : Nat) (n_ : Int) (low_ : Int) (high_ : Int) {r : Bool} (h : m_spec_l00In n n_ low_ high_ = some r) : ACall prog true 70 [.d (.int .i64 n_), .d (.int .i64 low_), .d (.int .i64 high_)] [] (fun v o new => v = .d (.bool r) ∧ o = [] ∧ new = []) := spec_l00In_ok_fr0 true n n_ low_ high_ h

def m_spec_l07Time_j1 (n : Nat) (c_ : SCurve) : Option (Nat × Bool) :=
  (getI c_.Times (w64 ((c_.Currents.length : Int) - (1 : Int)))).bind fun x26 =>
  some (x26, true)
def m_spec_l07Time_l2 (n : Nat) (c_ : SCurve) (current_ : Nat) : Nat → Int → Option (Nat × Bool)
  | 0, _ => none
  | m38 + 1, v32 =>
    if v32 < (c_.Currents.length : Int) then
      (getI c_.Currents (w64 (v32 - (1 : Int)))).bind fun x45 =>
      (getI c_.Currents v32).bind fun x46 =>
      if (fcmp .lss .f32 current_ x46) = true then
        (getI c_.Times (w64 (v32 - (1 : Int)))).bind fun x48 =>
        (getI c_.Times v32).bind fun x49 =>
        some ((farith .add .f32 x48 (farith .mul .f32 (farith .sub .f32 x49 x48) (farith .quo .f32 (farith .sub .f32 current_ x45) (farith .sub .f32 x46 x45)))), true)
      else
        (m_spec_l07Time_l2 n c_ current_ m38) (w64 (v32 + (1 : Int)))
    else
      m_spec_l07Time_j1 n c_
def m_spec_l07Time (n : Nat) (c_ : SCurve) (current_ : Nat) : Option (Nat × Bool) :=
  (getI c_.Currents (0 : Int)).bind fun x14 =>
  if (fcmp .geq .f32 current_ x14) = true then
    m_spec_l07Time_l2 n c_ current_ n (1 : Int)
  else
    some ((0 : Nat), false)
theorem spec_l07Time_ok (n : Nat) (c_ : SCurve) (current_ : Nat) {r : Nat × Bool} (h : m_spec_l07Time n c_ current_ = some r) : ACall prog false 121 [.ptr 0 0, .d (.fl .f32 current_)] [.box [.d (.sl false (c_.Currents.map eNatf32)), .d (.sl false (c_.Times.map eNatf32))]] (fun v o new => v = .tup [.d (.fl .f32 r.1), .d (.bool r.2)] ∧ o = [.box [.d (.sl false (c_.Currents.map eNatf32)), .d (.sl false (c_.Times.map eNatf32))]] ∧ new = []) := by
  refine acall_of_aw hτ func121 rfl (by simp) (by simp) ?_
  unfold m_spec_l07Time at h
  refine aw_seq ?_
  refine aw_region ?_
  refine awl_val hτ rfl rfl rfl ?_
  refine awl_val hτ rfl rfl rfl ?_
  refine awl_nil ?_
  refine aw_seq ?_
  refine aw_seq ?_
  refine aw_region ?_
  refine awl_val hτ rfl rfl rfl ?_
  refine awl_val hτ rfl rfl rfl ?_
  refine awl_val hτ rfl rfl rfl ?_
  refine awl_val hτ rfl rfl rfl ?_
  refine awl_val hτ rfl rfl rfl ?_
  refine bnd_elim h fun x14 hx14 h => ?_
  refine awl_elem hτ rfl rfl rfl (getI_some hx14).1 (map_getI hx14) rfl ?_
  refine awl_val hτ rfl rfl rfl ?_
  refine awl_val hτ rfl rfl rfl ?_
  refine awl_val hτ rfl rfl rfl ?_
  refine awl_nil ?_
  refine aw_weak (weak_ofP [0] (l := [(0, .ptr 0 0), (1, .d (.fl .f32 current_)), (19, .d (.bool (!(fcmp .geq .f32 current_ x14))))]) (objs := [.box [.d (.sl false (c_.Currents.map eNatf32)), .d (.sl false (c_.Times.map eNatf32))]]) rfl (by simp) rfl (by repeat' first | exact trivial | refine ⟨?_, ?_⟩) ⟨rfl, trivial, rfl, trivial, rfl, trivial, trivial⟩) ?_
  refine aw_cond rfl (fun hc15 => ?_) (fun hc15 => ?_)
  · have hc15 := not_t hc15
    have h := if_bf h hc15
    refine aw_seq ?_
    refine aw_region ?_
    refine awl_val hτ rfl rfl rfl ?_
    refine awl_val hτ rfl rfl rfl ?_
    refine awl_nil ?_
    refine aw_weak (weak_ofP [0] (l := [(4, .d (.fl .f32 (0 : Nat))), (5, .d (.bool false))]) (objs := [.box [.d (.sl false (c_.Currents.map eNatf32)), .d (.sl false (c_.Times.map eNatf32))]]) rfl (by simp) rfl (by repeat' first | exact trivial | refine ⟨?_, ?_⟩) ⟨rfl, trivial, rfl, trivial, trivial⟩) ?_
    refine aw_ret ?_
    have hr := Option.some.inj h
    subst hr
    exact ret_objs (.inr rfl) [] (objs' := [.box [.d (.sl false (c_.Currents.map eNatf32)), .d (.sl false (c_.Times.map eNatf32))]]) (new := []) rfl (by simp) (by simp) rfl (by repeat' first | exact trivial | refine ⟨?_, ?_⟩) rfl rfl (by repeat' first | exact trivial | refine ⟨?_, ?_⟩) (fun h => nomatch h) ⟨rfl, rfl, rfl⟩
  · have hc15 := not_f hc15
    have h := if_bt h hc15
    refine aw_skip ?_
    refine aw_seq ?_
    refine aw_region ?_
    refine awl_val hτ rfl rfl rfl ?_
    refine awl_val hτ rfl rfl rfl ?_
    refine awl_val hτ rfl rfl rfl ?_
    refine awl_val hτ rfl rfl rfl ?_
    refine awl_val hτ (v := .d (.int .i64 (c_.Currents.length : Int))) rfl rfl (Eq.trans rfl (or_len (f := eNatf32) c_.Currents)) ?_
    refine awl_val hτ rfl rfl rfl ?_
    refine awl_nil ?_
    refine aw_hk1 (ι := Unit) (fun _ => St.of [(0, .ptr 0 0), (6, .d (.int .i64 (c_.Currents.length : Int)))] [.box [.d (.sl false (c_.Currents.map eNatf32)), .d (.sl false (c_.Times.map eNatf32))]] f121.ntmps 1) (fun _ => m_spec_l07Time_j1 n c_ = some r) ?_ (fun hk27 => ?_)
    · rintro ⟨⟩ h
      replace h : m_spec_l07Time_j1 n c_ = some r := h
      unfold m_spec_l07Time_j1 at h
      refine aw_seq ?_
      refine aw_region ?_
      refine awl_val hτ rfl rfl rfl ?_
      refine awl_val hτ rfl rfl rfl ?_
      refine awl_val hτ rfl rfl rfl ?_
      refine awl_val hτ rfl rfl rfl ?_
      refine awl_val hτ rfl rfl rfl ?_
      refine awl_val hτ rfl rfl rfl ?_
      refine bnd_elim h fun x26 hx26 h => ?_
      refine awl_elem hτ rfl rfl rfl (getI_some hx26).1 (map_getI hx26) rfl ?_
      refine awl_val hτ rfl rfl rfl ?_
      refine awl_val hτ rfl rfl rfl ?_
      refine awl_val hτ rfl rfl rfl ?_
      refine awl_nil ?_
      refine aw_weak (weak_ofP [0] (l := [(4, .d (.fl .f32 x26)), (5, .d (.bool true))]) (objs := [.box [.d (.sl false (c_.Currents.map eNatf32)), .d (.sl false (c_.Times.map eNatf32))]]) rfl (by simp) rfl (by repeat' first | exact trivial | refine ⟨?_, ?_⟩) ⟨rfl, trivial, rfl, trivial, trivial⟩) ?_
      refine aw_ret ?_
      have hr := Option.some.inj h
      subst hr
      exact ret_objs (.inr rfl) [] (objs' := [.box [.d (.sl false (c_.Currents.map eNatf32)), .d (.sl false (c_.Times.map eNatf32))]]) (new := []) rfl (by simp) (by simp) rfl (by repeat' first | exact trivial | refine ⟨?_, ?_⟩) rfl rfl (by repeat' first | exact trivial | refine ⟨?_, ?_⟩) (fun h => nomatch h) ⟨rfl, rfl, rfl⟩
    · refine aw_seq ?_
      refine aw_seq ?_
      refine aw_weak (weak_ofP [0] (l := [(0, .ptr 0 0), (1, .d (.fl .f32 current_)), (6, .d (.int .i64 (c_.Currents.length : Int)))]) (objs := [.box [.d (.sl false (c_.Currents.map eNatf32)), .d (.sl false (c_.Times.map eNatf32))]]) rfl (by simp) rfl (by repeat' first | exact trivial | refine ⟨?_, ?_⟩) ⟨rfl, trivial, rfl, trivial, rfl, trivial, trivial⟩) ?_
      refine aw_region ?_
      refine awl_val hτ rfl rfl rfl ?_
      refine awl_nil ?_
      refine aw_block ?_
      refine aw_loop (ι := Nat × Int) (fun (m38, v32) => St.of [(0, .ptr 0 0), (1, .d (.fl .f32 current_)), (6, .d (.int .i64 (c_.Currents.length : Int))), (7, .d (.int .i64 v32))] [.box [.d (.sl false (c_.Currents.map eNatf32)), .d (.sl false (c_.Times.map eNatf32))]] f121.ntmps 1) (fun (m38, v32) => m_spec_l07Time_l2 n c_ current_ m38 v32 = some r) (fun x => x.1) (n, (1 : Int)) h (weak_ofP [0] (l := [(0, .ptr 0 0), (1, .d (.fl .f32 current_)), (6, .d (.int .i64 (c_.Currents.length : Int))), (7, .d (.int .i64 (1 : Int)))]) (objs := [.box [.d (.sl false (c_.Currents.map eNatf32)), .d (.sl false (c_.Times.map eNatf32))]]) rfl (by simp) rfl (by repeat' first | exact trivial | refine ⟨?_, ?_⟩) ⟨rfl, trivial, rfl, trivial, rfl, trivial, rfl, trivial, trivial⟩) ?_
      rintro ⟨m38, v32⟩ h
      replace h : m_spec_l07Time_l2 n c_ current_ m38 v32 = some r := h
      rcases m38 with _ | m38
      · rw [m_spec_l07Time_l2] at h; cases h
      rw [m_spec_l07Time_l2] at h
      refine aw_seq ?_
      refine aw_seq ?_
      refine aw_region ?_
      refine awl_val hτ rfl rfl rfl ?_
      refine awl_val hτ rfl rfl rfl ?_
      refine awl_val hτ rfl rfl rfl ?_
      refine awl_nil ?_
      refine aw_cond rfl (fun hc40 => ?_) (fun hc40 => ?_)
      · have h := if_t h hc40
        refine aw_skip ?_
        refine aw_seq ?_
        refine aw_block ?_
        refine aw_seq ?_
        refine aw_region ?_
        refine awl_val hτ rfl rfl rfl ?_
        refine awl_val hτ rfl rfl rfl ?_
        refine awl_val hτ rfl rfl rfl ?_
        refine awl_val hτ rfl rfl rfl ?_
        refine awl_val hτ rfl rfl rfl ?_
        refine awl_val hτ rfl rfl rfl ?_
        refine bnd_elim h fun x45 hx45 h => ?_
        refine awl_elem hτ rfl rfl rfl (getI_some hx45).1 (map_getI hx45) rfl ?_
        refine awl_val hτ rfl rfl rfl ?_
        refine awl_val hτ rfl rfl rfl ?_
        refine awl_nil ?_
        refine aw_seq ?_
        refine aw_weak (weak_ofP [0] (l := [(0, .ptr 0 0), (1, .d (.fl .f32 current_)), (6, .d (.int .i64 (c_.Currents.length : Int))), (7, .d (.int .i64 v32)), (8, .d (.fl .f32 x45))]) (objs := [.box [.d (.sl false (c_.Currents.map eNatf32)), .d (.sl false (c_.Times.map eNatf32))]]) rfl (by simp) rfl (by repeat' first | exact trivial | refine ⟨?_, ?_⟩) ⟨rfl, trivial, rfl, trivial, rfl, trivial, rfl, trivial, rfl, trivial, trivial⟩) ?_
        refine aw_region ?_
        refine awl_val hτ rfl rfl rfl ?_
        refine awl_val hτ rfl rfl rfl ?_
        refine awl_val hτ rfl rfl rfl ?_
        refine awl_val hτ rfl rfl rfl ?_
        refine awl_val hτ rfl rfl rfl ?_
        refine bnd_elim h fun x46 hx46 h => ?_
        refine awl_elem hτ rfl rfl rfl (getI_some hx46).1 (map_getI hx46) rfl ?_
        refine awl_val hτ rfl rfl rfl ?_
        refine awl_val hτ rfl rfl rfl ?_
        refine awl_nil ?_
        refine aw_seq ?_
        refine aw_weak (weak_ofP [0] (l := [(0, .ptr 0 0), (1, .d (.fl .f32 current_)), (6, .d (.int .i64 (c_.Currents.length : Int))), (7, .d (.int .i64 v32)), (8, .d (.fl .f32 x45)), (9, .d (.fl .f32 x46))]) (objs := [.box [.d (.sl false (c_.Currents.map eNatf32)), .d (.sl false (c_.Times.map eNatf32))]]) rfl (by simp) rfl (by repeat' first | exact trivial | refine ⟨?_, ?_⟩) ⟨rfl, trivial, rfl, trivial, rfl, trivial, rfl, trivial, rfl, trivial, rfl, trivial, trivial⟩) ?_
        refine aw_region ?_
        refine awl_val hτ rfl rfl rfl ?_
        refine awl_val hτ rfl rfl rfl ?_
        refine awl_val hτ rfl rfl rfl ?_
        refine awl_nil ?_
        refine aw_cond rfl (fun hc47 => ?_) (fun hc47 => ?_)
        · have h := if_bt h hc47
          refine aw_seq ?_
          refine aw_region ?_
          refine awl_val hτ rfl rfl rfl ?_
          refine awl_val hτ rfl rfl rfl ?_
          refine awl_val hτ rfl rfl rfl ?_
          refine awl_val hτ rfl rfl rfl ?_
          refine awl_val hτ rfl rfl rfl ?_
          refine awl_val hτ rfl rfl rfl ?_
          refine awl_val hτ rfl rfl rfl ?_
          refine awl_val hτ rfl rfl rfl ?_
          refine awl_nil ?_
          refine aw_seq ?_
          refine aw_weak (weak_ofP [0] (l := [(0, .ptr 0 0), (7, .d (.int .i64 v32)), (10, .d (.fl .f32 (farith .quo .f32 (farith .sub .f32 current_ x45) (farith .sub .f32 x46 x45))))]) (objs := [.box [.d (.sl false (c_.Currents.map eNatf32)), .d (.sl false (c_.Times.map eNatf32))]]) rfl (by simp) rfl (by repeat' first | exact trivial | refine ⟨?_, ?_⟩) ⟨rfl, trivial, rfl, trivial, rfl, trivial, trivial⟩) ?_
          refine any_start ?_
          refine any_val hτ [] 0 rfl rfl rfl rfl rfl ?_
          refine any_val hτ [] 1 rfl rfl rfl rfl rfl ?_
          refine any_val hτ [0] 2 rfl rfl rfl rfl rfl ?_
          refine any_val hτ [0] 3 rfl rfl rfl rfl rfl ?_
          refine any_val hτ [] 4 rfl rfl rfl rfl rfl ?_
          refine any_val hτ [] 5 rfl rfl rfl rfl rfl ?_
          refine bnd_elim h fun x48 hx48 h => ?_
          refine any_elem hτ [] 6 rfl rfl rfl rfl rfl (getI_some hx48).1 (map_getI hx48) rfl ?_
          refine any_val hτ [] 7 rfl rfl rfl rfl rfl ?_
          refine any_val hτ [] 8 rfl rfl rfl rfl rfl ?_
          refine any_val hτ [] 9 rfl rfl rfl rfl rfl ?_
          refine any_val hτ [0] 10 rfl rfl rfl rfl rfl ?_
          refine any_val hτ [0] 11 rfl rfl rfl rfl rfl ?_
          refine any_val hτ [] 12 rfl rfl rfl rfl rfl ?_
          refine bnd_elim h fun x49 hx49 h => ?_
          refine any_elem hτ [] 13 rfl rfl rfl rfl rfl (getI_some hx49).1 (map_getI hx49) rfl ?_
          refine any_val hτ [] 14 rfl rfl rfl rfl rfl ?_
          refine any_val hτ [] 15 rfl rfl rfl rfl rfl ?_
          refine any_val hτ [] 16 rfl rfl rfl rfl rfl ?_
          refine any_val hτ [0] 17 rfl rfl rfl rfl rfl ?_
          refine any_val hτ [0] 18 rfl rfl rfl rfl rfl ?_
          refine any_val hτ [] 19 rfl rfl rfl rfl rfl ?_
          refine any_val hτ [] 20 rfl rfl rfl rfl rfl ?_
          refine any_elem hτ [] 21 rfl rfl rfl rfl rfl (getI_some hx48).1 (map_getI hx48) rfl ?_
          refine any_val hτ [] 22 rfl rfl rfl rfl rfl ?_
          refine any_val hτ [] 23 rfl rfl rfl rfl rfl ?_
          refine any_val hτ [] 24 rfl rfl rfl rfl rfl ?_
          refine any_val hτ [] 25 rfl rfl rfl rfl rfl ?_
          refine any_val hτ [] 26 rfl rfl rfl rfl rfl ?_
          refine any_val hτ [] 27 rfl rfl rfl rfl rfl ?_
          refine any_val hτ [] 28 rfl rfl rfl rfl rfl ?_
          refine any_done mixed (by kernel_rfl) ?_
          refine aw_weak (weak_ofP [0] (l := [(4, .d (.fl .f32 (farith .add .f32 x48 (farith .mul .f32 (farith .sub .f32 x49 x48) (farith .quo .f32 (farith .sub .f32 current_ x45) (farith .sub .f32 x46 x45)))))), (5, .d (.bool true))]) (objs := [.box [.d (.sl false (c_.Currents.map eNatf32)), .d (.sl false (c_.Times.map eNatf32))]]) rfl (by simp) rfl (by repeat' first | exact trivial | refine ⟨?_, ?_⟩) ⟨rfl, trivial, rfl, trivial, trivial⟩) ?_
          refine aw_ret ?_
          have hr := Option.some.inj h
          subst hr
          exact ret_objs (.inr rfl) [] (objs' := [.box [.d (.sl false (c_.Currents.map eNatf32)), .d (.sl false (c_.Times.map eNatf32))]]) (new := []) rfl (by simp) (by simp) rfl (by repeat' first | exact trivial | refine ⟨?_, ?_⟩) rfl rfl (by repeat' first | exact trivial | refine ⟨?_, ?_⟩) (fun h => nomatch h) ⟨rfl, rfl, rfl⟩
        · have h := if_bf h hc47
          refine aw_skip ?_
          refine aw_region ?_
          refine awl_val hτ rfl rfl rfl ?_
          refine awl_val hτ rfl rfl rfl ?_
          refine awl_val hτ rfl rfl rfl ?_
          refine awl_nil ?_
          exact ⟨(m38, (w64 (v32 + (1 : Int)))), h, Nat.lt_succ_self m38, (weak_ofP [0] (l := [(0, .ptr 0 0), (1, .d (.fl .f32 current_)), (6, .d (.int .i64 (c_.Currents.length : Int))), (7, .d (.int .i64 (w64 (v32 + (1 : Int)))))]) (objs := [.box [.d (.sl false (c_.Currents.map eNatf32)), .d (.sl false (c_.Times.map eNatf32))]]) rfl (by simp) rfl (by repeat' first | exact trivial | refine ⟨?_, ?_⟩) ⟨rfl, trivial, rfl, trivial, rfl, trivial, rfl, trivial, trivial⟩)⟩
      · have h := if_f h hc40
        refine aw_exit ?_
        refine aw_weak (weak_ofP [0] (l := [(0, .ptr 0 0), (6, .d (.int .i64 (c_.Currents.length : Int)))]) (objs := [.box [.d (.sl false (c_.Currents.map eNatf32)), .d (.sl false (c_.Times.map eNatf32))]]) rfl (by simp) rfl (by repeat' first | exact trivial | refine ⟨?_, ?_⟩) ⟨rfl, trivial, rfl, trivial, trivial⟩) ?_
        exact hk27 () h

def m_spec_l07Margin (n : Nat) (a_ : SCurve) (b_ : SCurve) (current_ : Nat) : Option (Nat × Bool) :=
  (m_spec_l07Time n a_ current_).bind fun x5 =>
  (m_spec_l07Time n b_ current_).bind fun x6 =>
  if x5.2 = true then
    some ((farith .sub .f32 x6.1 x5.1), x6.2)
  else
    some ((farith .sub .f32 x6.1 x5.1), false)
theorem spec_l07Margin_ok (n : Nat) (a_ : SCurve) (b_ : SCurve) (current_ : Nat) {r : Nat × Bool} (h : m_spec_l07Margin n a_ b_ current_ = some r) : ACall prog false 99 [.ptr 0 0, .ptr 1 0, .d (.fl .f32 current_)] [.box [.d (.sl false (a_.Currents.map eNatf32)), .d (.sl false (a_.Times.map eNatf32))], .box [.d (.sl false (b_.Currents.map eNatf32)), .d (.sl false (b_.Times.map eNatf32))]] (fun v o new => v = .tup [.d (.fl .f32 r.1), .d (.bool r.2)] ∧ o = [.box [.d (.sl false (a_.Currents.map eNatf32)), .d (.sl false (a_.Times.map eNatf32))], .box [.d (.sl false (b_.Currents.map eNatf32)), .d (.sl false (b_.Times.map eNatf32))]] ∧ new = []) := by
  refine acall_of_aw hτ func99 rfl (by simp) (by simp) ?_
  unfold m_spec_l07Margin at h
  refine aw_seq ?_
  refine aw_region ?_
  refine awl_val hτ rfl rfl rfl ?_
  refine awl_val hτ rfl rfl rfl ?_
  refine awl_nil ?_
  refine aw_seq ?_
  refine aw_region ?_
  refine awl_val hτ rfl rfl rfl ?_
  refine awl_val hτ rfl rfl rfl ?_
  refine bnd_elim h fun x5 hx5 h => ?_
  refine awl_callP hτ false [0] rfl rfl rfl (enterOk func121 rfl rfl) rfl rfl (by simp) ⟨trivial, trivial, trivial⟩ (by repeat' first | exact trivial | refine ⟨?_, ?_⟩) (spec_l07Time_ok n a_ current_ hx5) ?_
  rintro r0 o0 n0 ⟨rfl, rfl, rfl⟩ -
  refine awl_val hτ rfl rfl rfl ?_
  refine awl_val hτ rfl rfl rfl ?_
  refine awl_val hτ rfl rfl rfl ?_
  refine awl_val hτ rfl rfl rfl ?_
  refine awl_val hτ rfl rfl rfl ?_
  refine awl_nil ?_
  refine aw_seq ?_
  refine aw_weak (weak_ofP [0, 1] (l := [(1, .ptr 1 0), (2, .d (.fl .f32 current_)), (8, .d (.fl .f32 x5.1)), (9, .d (.bool x5.2))]) (objs := [.box [.d (.sl false (a_.Currents.map eNatf32)), .d (.sl false (a_.Times.map eNatf32))], .box [.d (.sl false (b_.Currents.map eNatf32)), .d (.sl false (b_.Times.map eNatf32))]]) rfl (by simp) rfl (by repeat' first | exact trivial | refine ⟨?_, ?_⟩) ⟨rfl, trivial, rfl, trivial, rfl, trivial, rfl, trivial, trivial⟩) ?_
  refine aw_region ?_
  refine awl_val hτ rfl rfl rfl ?_
  refine awl_val hτ rfl rfl rfl ?_
  refine bnd_elim h fun x6 hx6 h => ?_
  refine awl_callP hτ false [1] rfl rfl rfl (enterOk func121 rfl rfl) rfl rfl (by simp) ⟨trivial, trivial, trivial⟩ (by repeat' first | exact trivial | refine ⟨?_, ?_⟩) (spec_l07Time_ok n b_ current_ hx6) ?_
  rintro r0 o0 n0 ⟨rfl, rfl, rfl⟩ -
  refine awl_val hτ rfl rfl rfl ?_
  refine awl_val hτ rfl rfl rfl ?_
  refine awl_val hτ rfl rfl rfl ?_
  refine awl_val hτ rfl rfl rfl ?_
  refine awl_val hτ rfl rfl rfl ?_
  refine awl_nil ?_
  refine aw_seq ?_
  refine aw_weak (weak_ofP [0, 1] (l := [(8, .d (.fl .f32 x5.1)), (9, .d (.bool x5.2)), (10, .d (.fl .f32 x6.1)), (11, .d (.bool x6.2))]) (objs := [.box [.d (.sl false (a_.Currents.map eNatf32)), .d (.sl false (a_.Times.map eNatf32))], .box [.d (.sl false (b_.Currents.map eNatf32)), .d (.sl false (b_.Times.map eNatf32))]]) rfl (by simp) rfl (by repeat' first | exact trivial | refine ⟨?_, ?_⟩) ⟨rfl, trivial, rfl, trivial, rfl, trivial, rfl, trivial, trivial⟩) ?_
  refine aw_region ?_
  refine awl_val hτ rfl rfl rfl ?_
  refine awl_val hτ rfl rfl rfl ?_
  refine awl_val hτ rfl rfl rfl ?_
  refine awl_val hτ rfl rfl rfl ?_
  refine awl_val hτ rfl rfl rfl ?_
  refine awl_split 28 rfl (fun hb7 => ?_) (fun hb7 => ?_)
  · have h := if_bt h hb7
    refine awl_val hτ rfl rfl rfl ?_
    refine awl_val hτ rfl rfl rfl ?_
    refine awl_val hτ rfl rfl rfl ?_
    refine awl_val hτ rfl rfl rfl ?_
    refine awl_nil ?_
    refine aw_weak (weak_ofP [0, 1] (l := [(6, .d (.fl .f32 (farith .sub .f32 x6.1 x5.1))), (7, .d (.bool x6.2))]) (objs := [.box [.d (.sl false (a_.Currents.map eNatf32)), .d (.sl false (a_.Times.map eNatf32))], .box [.d (.sl false (b_.Currents.map eNatf32)), .d (.sl false (b_.Times.map eNatf32))]]) rfl (by simp) rfl (by repeat' first | exact trivial | refine ⟨?_, ?_⟩) ⟨rfl, trivial, rfl, trivial, trivial⟩) ?_
    refine aw_ret ?_
    have hr := Option.some.inj h
    subst hr
    exact ret_objs (.inr rfl) [] (objs' := [.box [.d (.sl false (a_.Currents.map eNatf32)), .d (.sl false (a_.Times.map eNatf32))], .box [.d (.sl false (b_.Currents.map eNatf32)), .d (.sl false (b_.Times.map eNatf32))]]) (new := []) rfl (by simp) (by simp) rfl (by repeat' first | exact trivial | refine ⟨?_, ?_⟩) rfl rfl (by repeat' first | exact trivial | refine ⟨?_, ?_⟩) (fun h => nomatch h) ⟨rfl, rfl, rfl⟩
  · have h := if_bf h hb7
    refine awl_skip rfl rfl ?_
    refine awl_val hτ rfl rfl rfl ?_
    refine awl_val hτ rfl rfl rfl ?_
    refine awl_val hτ rfl rfl rfl ?_
    refine awl_nil ?_
    refine aw_weak (weak_ofP [0, 1] (l := [(6, .d (.fl .f32 (farith .sub .f32 x6.1 x5.1))), (7, .d (.bool false))]) (objs := [.box [.d (.sl false (a_.Currents.map eNatf32)), .d (.sl false (a_.Times.map eNatf32))], .box [.d (.sl false (b_.Currents.map eNatf32)), .d (.sl false (b_.Times.map eNatf32))]]) rfl (by simp) rfl (by repeat' first | exact trivial | refine ⟨?_, ?_⟩) ⟨rfl, trivial, rfl, trivial, trivial⟩) ?_
    refine aw_ret ?_
    have hr := Option.some.inj h
    subst hr
    exact ret_objs (.inr rfl) [] (objs' := [.box [.d (.sl false (a_.Currents.map eNatf32)), .d (.sl false (a_.Times.map eNatf32))], .box [.d (.sl false (b_.Currents.map eNatf32)), .d (.sl false (b_.Times.map eNatf32))]]) (new := []) rfl (by simp) (by simp) rfl (by repeat' first | exact trivial | refine ⟨?_, ?_⟩) rfl rfl (by repeat' first | exact trivial | refine ⟨?_, ?_⟩) (fun h => nomatch h) ⟨rfl, rfl, rfl⟩

end Go.Proofs.Ytolggocnbakokaa.AWN
